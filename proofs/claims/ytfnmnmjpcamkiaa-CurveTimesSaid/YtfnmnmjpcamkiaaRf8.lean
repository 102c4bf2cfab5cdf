/-
  Layer 1, the reference: One, Squared, Inverse, walked. Printed by mkrf8.py.
-/
import Derived.Test.YtfnmnmjpcamkiaaRf7
namespace Go.Proofs.Ytfnmnmjpcamkiaa
open Go.RowKit
set_option linter.unusedVariables false
set_option linter.unusedSimpArgs false

theorem lit_eq {n : Int} {x0 x1 x2 x3 x4 x5 x6 x7 x8 x9 : Int} (h : canL n 10 = [x0, x1, x2, x3, x4, x5, x6, x7, x8, x9]) : Value.agg #[.int .i64 x0, .int .i64 x1, .int .i64 x2, .int .i64 x3, .int .i64 x4, .int .i64 x5, .int .i64 x6, .int .i64 x7, .int .i64 x8, .int .i64 x9] = numV (canL n 10) := by rw [h]; rfl

theorem times_gen (w : World) (A B : Value) (x y : Int) (hA : A = numV (canL x 10)) (hB : B = numV (canL y 10)) (hx : Rng x) (hy : Rng y) :
    Calls Try.prog 55 #[A, B] w fun r w' => (∃ z0 z1 z2 z3 z4 z5 z6 z7 z8 z9 : Int, r = .returned (.agg #[.int .i64 z0, .int .i64 z1, .int .i64 z2, .int .i64 z3, .int .i64 z4, .int .i64 z5, .int .i64 z6, .int .i64 z7, .int .i64 z8, .int .i64 z9]) ∧ canL (mulZ x y) 10 = [z0, z1, z2, z3, z4, z5, z6, z7, z8, z9]) ∧ Touch Nothing w w' := by
  subst hA hB
  refine (Times_ref w x y hx hy).mono fun r w' hr => ?_
  obtain ⟨z0, z1, z2, z3, z4, z5, z6, z7, z8, z9, hz⟩ := can_ten (mulZ x y)
  refine ⟨⟨z0, z1, z2, z3, z4, z5, z6, z7, z8, z9, ?_, hz⟩, hr.2⟩
  rw [hr.1, hz]
  rfl

theorem plus_gen (w : World) (A B : Value) (x y : Int) (hA : A = numV (canL x 10)) (hB : B = numV (canL y 10)) (hx : Rng x) (hy : Rng y) :
    Calls Try.prog 54 #[A, B] w fun r w' => (∃ z0 z1 z2 z3 z4 z5 z6 z7 z8 z9 : Int, r = .returned (.agg #[.int .i64 z0, .int .i64 z1, .int .i64 z2, .int .i64 z3, .int .i64 z4, .int .i64 z5, .int .i64 z6, .int .i64 z7, .int .i64 z8, .int .i64 z9]) ∧ canL (addZ x y) 10 = [z0, z1, z2, z3, z4, z5, z6, z7, z8, z9]) ∧ Touch Nothing w w' := by
  subst hA hB
  refine (Plus_ref w x y hx hy).mono fun r w' hr => ?_
  obtain ⟨z0, z1, z2, z3, z4, z5, z6, z7, z8, z9, hz⟩ := can_ten (addZ x y)
  refine ⟨⟨z0, z1, z2, z3, z4, z5, z6, z7, z8, z9, ?_, hz⟩, hr.2⟩
  rw [hr.1, hz]
  rfl

theorem bytes_gen (w : World) (A : Value) (x : Int) (hA : A = numV (canL x 10)) (hx : Rng x) :
    Calls Try.prog 56 #[A] w fun r w' => r = .returned (.string (enc x)) ∧ Touch Nothing w w' := by
  subst hA
  exact Bytes_ref w x hx.1 (by have := hx.2; unfold PP at this; omega)

set_option maxRecDepth 100000 in
theorem One_lit (w : World) : Calls Try.prog 65 #[] w fun r w' => r = .returned (.agg #[.int .i64 1, .int .i64 0, .int .i64 0, .int .i64 0, .int .i64 0, .int .i64 0, .int .i64 0, .int .i64 0, .int .i64 0, .int .i64 0]) ∧ Touch Nothing w w' := by
  go_enter Try.func65, Try.ntmps65
  go_wp2
  exact bodyPost_ret (v := numV [1, 0, 0, 0, 0, 0, 0, 0, 0, 0]) (ret_num rfl rfl rfl (heap_alloc_new w (numC [1, 0, 0, 0, 0, 0, 0, 0, 0, 0]))) rfl ⟨rfl, (Touch.refl _ _).alloc _⟩

set_option maxRecDepth 100000 in
set_option maxHeartbeats 3200000 in
theorem Squared_ref (w : World) (x : Int) (hx : Rng x) (n : Nat) (hn : n ≤ 1000000) :
    Calls Try.prog 76 #[numV (canL x 10), .int .i64 (n : Int)] w fun r w' => r = .returned (numV (canL (sqN x n) 10)) ∧ Touch Nothing w w' := by
  have hs0 : sqN x 0 = x := by rw [sqN_zero]; exact Int.emod_eq_of_lt hx.1 hx.2
  obtain ⟨sq, hsq⟩ : ∃ sq, sq = sqN x := ⟨_, rfl⟩
  have rsq : ∀ k, Rng (sq k) := fun k => by rw [hsq]; exact rng_sq x k
  have ssq : ∀ k, mulZ (sq k) (sq k) = sq (k + 1) := fun k => by rw [hsq, sqN_succ]; rfl
  rw [← hsq] at hs0 ⊢
  rw [← hs0]
  obtain ⟨X, eX⟩ : ∃ X, X = canL (sq 0) 10 := ⟨_, rfl⟩
  rw [← eX]
  have hA0 : ((w.alloc (numC X)).alloc (numC zeroN)).heap[w.heap.size]? = some (numC X) := by
    rw [Below.heap_alloc _ _ _ (by simp)]; exact heap_alloc_new _ _
  have hZ0 : ((w.alloc (numC X)).alloc (numC zeroN)).heap[w.heap.size + 1]? = some (numC zeroN) := by
    have := heap_alloc_new (w.alloc (numC X)) (numC zeroN)
    simpa using this
  replace hA0 := Lib.hid hA0
  replace hZ0 := Lib.hid hZ0
  replace eX := Lib.hid eX
  replace hs0 := Lib.hid hs0
  replace hsq := Lib.hid hsq
  replace rsq := Lib.hid rsq
  replace ssq := Lib.hid ssq
  clear hx
  unfold numV
  go_enter Try.func76, Try.ntmps76
  go_wp2
  go_loopw [5] (fun iv wr => ∃ k : Nat, k ≤ n ∧ iv = .int .i64 (k : Int) ∧ wr.heap[w.heap.size]? = some (numC (canL (sq k) 10)) ∧ wr.heap[w.heap.size + 1]? = some (numC zeroN) ∧ Touch Nothing w wr) (fun iv _ => n - (intOf iv).toNat)
  case atStart => exact ⟨0, Nat.zero_le _, rfl, by rw [← eX.out]; exact hA0.out, hZ0.out, ((Touch.refl _ _).alloc _).alloc _⟩
  case round =>
    obtain ⟨k, hk, rfl, hA, hZ, ht⟩ := hrel
    obtain ⟨x0, x1, x2, x3, x4, x5, x6, x7, x8, x9, hx⟩ := can_ten (sq k)
    rw [hx] at hA
    obtain ⟨c0, c1, c2, c3, c4, c5, c6, c7, c8, c9⟩ := num_cells hA
    by_cases hlt : k < n
    · have hT := Lib.hid (fun w => times_gen w _ _ (sq k) (sq k) (lit_eq hx) (lit_eq hx) (rsq.out k) (rsq.out k))
      have hss := Lib.hid (ssq.out k)
      replace hA := Lib.hid hA
      replace hZ := Lib.hid hZ
      replace hx := Lib.hid hx
      go_wp2_with (go_at_call 55; refine (hT.out _).mono ?_; rintro r w2 ⟨⟨z0, z1, z2, z3, z4, z5, z6, z7, z8, z9, rfl, hz⟩, t2⟩; replace hz := Lib.hid hz; have hA2 := touch_heap0 t2 hA.out; obtain ⟨d0, d1, d2, d3, d4, d5, d6, d7, d8, d9⟩ := num_cells hA2; have g0 := frz_blk hA2 0; have g1 := frz_blk hA2 1; have g2 := frz_blk hA2 2; have g3 := frz_blk hA2 3; have g4 := frz_blk hA2 4; have g5 := frz_blk hA2 5; have g6 := frz_blk hA2 6; have g7 := frz_blk hA2 7; have g8 := frz_blk hA2 8; have g9 := frz_blk hA2 9; replace hA2 := Lib.hid hA2)
      have hb := set10 (x0 := z0) (x1 := z1) (x2 := z2) (x3 := z3) (x4 := z4) (x5 := z5) (x6 := z6) (x7 := z7) (x8 := z8) (x9 := z9) rfl hA2.out
      have hto := touch10 (w := w2) (g := w.heap.size) (v0 := .int .i64 z0) (v1 := .int .i64 z1) (v2 := .int .i64 z2) (v3 := .int .i64 z3) (v4 := .int .i64 z4) (v5 := .int .i64 z5) (v6 := .int .i64 z6) (v7 := .int .i64 z7) (v8 := .int .i64 z8) (v9 := .int .i64 z9)
      refine ⟨⟨k + 1, by omega, by simp, ?_, hto.heap (touch_heap0 t2 hZ.out) (by omega), (ht.trans' t2).trans hto fun i hi q => by omega⟩, by simp [intOf]; omega⟩
      rw [← hss.out, hz.out]
      exact hb
    · obtain rfl : k = n := by omega
      obtain ⟨d0, d1, d2, d3, d4, d5, d6, d7, d8, d9⟩ := num_cells (show wr.heap[w.heap.size + 1]? = some (numC [0, 0, 0, 0, 0, 0, 0, 0, 0, 0]) from hZ)
      have g0 := frz_blk hZ 0
      have g1 := frz_blk hZ 1
      have g2 := frz_blk hZ 2
      have g3 := frz_blk hZ 3
      have g4 := frz_blk hZ 4
      have g5 := frz_blk hZ 5
      have g6 := frz_blk hZ 6
      have g7 := frz_blk hZ 7
      have g8 := frz_blk hZ 8
      have g9 := frz_blk hZ 9
      replace hA := Lib.hid hA
      replace hZ := Lib.hid hZ
      replace hx := Lib.hid hx
      go_wp2
      exact bodyPost_ret (v := numV [x0, x1, x2, x3, x4, x5, x6, x7, x8, x9]) (ret_num rfl rfl rfl (set10 rfl hZ.out)) rfl ⟨by rw [hx.out]; rfl, ht.trans touch10 fun i hi q => by omega⟩

/-- A power. -/
def powN (x : Int) (e : Nat) : Int := x ^ e % PP
theorem rng_pow (x : Int) (e : Nat) : Rng (powN x e) := rng_mod _
theorem powN_add (x : Int) (a b : Nat) : mulZ (powN x a) (powN x b) = powN x (a + b) := by
  unfold mulZ powN
  rw [Int.pow_add, ← Int.mul_emod]
theorem powN_one {x : Int} (h : Rng x) : powN x 1 = x := by
  unfold powN
  rw [← pow_one_mod, Int.emod_eq_of_lt h.1 h.2]
def EE : Nat := 57896044618658097711785492504343953926634992332820282019728792003956564819947
theorem EE_bits : ∀ i, i < 255 → EE / 2 ^ i % 2 = if i = 2 ∨ i = 4 then 0 else 1 := by decide +kernel
theorem EE_top : EE / 2 ^ 255 = 0 := by decide +kernel
theorem EE_step (i : Nat) : EE / 2 ^ i = EE / 2 ^ (i + 1) + EE / 2 ^ (i + 1) + EE / 2 ^ i % 2 := by
  rw [Nat.pow_succ, ← Nat.div_div_eq_div_mul]
  omega
theorem invN_pow (x : Int) : invN x = powN x EE := rfl

set_option maxRecDepth 100000 in
set_option maxHeartbeats 6400000 in
theorem Inverse_ref (w : World) (x : Int) (hx : Rng x) :
    Calls Try.prog 74 #[numV (canL x 10)] w fun r w' => r = .returned (numV (canL (invN x) 10)) ∧ Touch Nothing w w' := by
  obtain ⟨pw, hpw⟩ : ∃ pw : Nat → Int, pw = fun k => powN x (EE / 2 ^ k) := ⟨_, rfl⟩
  have rpw : ∀ k, Rng (pw k) := fun k => by rw [hpw]; exact rng_pow x _
  have p255 : pw 255 = 1 := by
    rw [hpw]
    show powN x (EE / 2 ^ 255) = 1
    rw [EE_top]
    unfold powN
    rw [Int.pow_zero]
    rfl
  have p0 : pw 0 = invN x := by
    rw [hpw, invN_pow]
    show powN x (EE / 2 ^ 0) = _
    rw [Nat.pow_zero, Nat.div_one]
  have s0 : ∀ k, k < 255 → (k = 2 ∨ k = 4) → mulZ (pw (k + 1)) (pw (k + 1)) = pw k := fun k hk h => by
    rw [hpw]
    show mulZ (powN x (EE / 2 ^ (k + 1))) (powN x (EE / 2 ^ (k + 1))) = powN x (EE / 2 ^ k)
    rw [powN_add, EE_step k, EE_bits k hk, if_pos h]
    exact congrArg (powN x) (Nat.add_zero _).symm
  have s1 : ∀ k, k < 255 → ¬ (k = 2 ∨ k = 4) → mulZ (mulZ (pw (k + 1)) (pw (k + 1))) x = pw k := fun k hk h => by
    rw [hpw]
    show mulZ (mulZ (powN x (EE / 2 ^ (k + 1))) (powN x (EE / 2 ^ (k + 1)))) x = powN x (EE / 2 ^ k)
    have e : mulZ (powN x (EE / 2 ^ (k + 1) + EE / 2 ^ (k + 1))) x = mulZ (powN x (EE / 2 ^ (k + 1) + EE / 2 ^ (k + 1))) (powN x 1) := by rw [powN_one hx]
    rw [powN_add, e, powN_add, EE_step k, EE_bits k hk, if_neg h]
  obtain ⟨fin, hfin⟩ : ∃ fin, fin = invN x := ⟨_, rfl⟩
  rw [← hfin] at p0 ⊢
  obtain ⟨x0, x1, x2, x3, x4, x5, x6, x7, x8, x9, hX⟩ := can_ten x
  rw [hX]
  have hA0 : ((w.alloc (numC [x0, x1, x2, x3, x4, x5, x6, x7, x8, x9])).alloc (numC zeroN)).heap[w.heap.size]? = some (numC [x0, x1, x2, x3, x4, x5, x6, x7, x8, x9]) := by
    rw [Below.heap_alloc _ _ _ (by simp)]; exact heap_alloc_new _ _
  have hZ0 : ((w.alloc (numC [x0, x1, x2, x3, x4, x5, x6, x7, x8, x9])).alloc (numC zeroN)).heap[w.heap.size + 1]? = some (numC zeroN) := by
    have := heap_alloc_new (w.alloc (numC [x0, x1, x2, x3, x4, x5, x6, x7, x8, x9])) (numC zeroN)
    simpa using this
  replace hA0 := Lib.hid hA0
  replace hZ0 := Lib.hid hZ0
  replace hX := Lib.hid hX
  replace hpw := Lib.hid hpw
  replace hfin := Lib.hid hfin
  replace rpw := Lib.hid rpw
  replace p255 := Lib.hid p255
  replace p0 := Lib.hid p0
  replace s0 := Lib.hid s0
  replace s1 := Lib.hid s1
  replace hx := Lib.hid hx
  have hin : numV [x0, x1, x2, x3, x4, x5, x6, x7, x8, x9] = .agg #[.int .i64 x0, .int .i64 x1, .int .i64 x2, .int .i64 x3, .int .i64 x4, .int .i64 x5, .int .i64 x6, .int .i64 x7, .int .i64 x8, .int .i64 x9] := rfl
  rw [hin]
  clear hin
  go_enter Try.func74, Try.ntmps74
  go_upto_region 2 with (go_at_call 65; refine (One_lit _).mono ?_; rintro r w2 ⟨rfl, t2⟩)
  have hA1 : (w2.alloc (numC [1, 0, 0, 0, 0, 0, 0, 0, 0, 0])).heap[w.heap.size]? = some (numC [x0, x1, x2, x3, x4, x5, x6, x7, x8, x9]) := touch_heap0 ((Touch.refl Nothing w2).alloc _) (touch_heap0 t2 hA0.out)
  have hZ1 : (w2.alloc (numC [1, 0, 0, 0, 0, 0, 0, 0, 0, 0])).heap[w.heap.size + 1]? = some (numC zeroN) := touch_heap0 ((Touch.refl Nothing w2).alloc _) (touch_heap0 t2 hZ0.out)
  have hO1 : (w2.alloc (numC [1, 0, 0, 0, 0, 0, 0, 0, 0, 0])).heap[w2.heap.size]? = some (numC (canL 1 10)) := heap_alloc_new _ _
  have ht1 : Touch Nothing w (w2.alloc (numC [1, 0, 0, 0, 0, 0, 0, 0, 0, 0])) := (((((Touch.refl _ _).alloc _).alloc _)).trans' t2).alloc _
  have hlt2 := lt_of_heap hZ0.out
  have hsz2 : ((w.alloc (numC [x0, x1, x2, x3, x4, x5, x6, x7, x8, x9])).alloc (numC zeroN)).heap.size ≤ w2.heap.size := t2.size
  replace hA1 := Lib.hid hA1
  replace hZ1 := Lib.hid hZ1
  replace hO1 := Lib.hid hO1
  replace ht1 := Lib.hid ht1
  go_wp2
  go_loopw [4] (fun iv wr => ∃ k : Nat, k ≤ 255 ∧ iv = .int .i64 ((k : Int) - 1) ∧ wr.heap[w.heap.size]? = some (numC [x0, x1, x2, x3, x4, x5, x6, x7, x8, x9]) ∧ wr.heap[w.heap.size + 1]? = some (numC zeroN) ∧ wr.heap[w2.heap.size]? = some (numC (canL (pw k) 10)) ∧ Touch Nothing w wr) (fun iv _ => (intOf iv + 1).toNat)
  case atStart => exact ⟨255, by omega, rfl, hA1.out, hZ1.out, by rw [p255.out]; exact hO1.out, ht1.out⟩
  case round =>
    clear hA1 hZ1 hO1 ht1
    obtain ⟨k, hk, rfl, hA, hZ, hO, ht⟩ := hrel
    obtain ⟨y0, y1, y2, y3, y4, y5, y6, y7, y8, y9, hY⟩ := can_ten (pw k)
    rw [hY] at hO
    obtain ⟨c0, c1, c2, c3, c4, c5, c6, c7, c8, c9⟩ := num_cells hO
    cases k with
    | zero =>
      obtain ⟨d0, d1, d2, d3, d4, d5, d6, d7, d8, d9⟩ := num_cells (show wr.heap[w.heap.size + 1]? = some (numC [0, 0, 0, 0, 0, 0, 0, 0, 0, 0]) from hZ)
      have g0 := frz_blk hZ 0
      have g1 := frz_blk hZ 1
      have g2 := frz_blk hZ 2
      have g3 := frz_blk hZ 3
      have g4 := frz_blk hZ 4
      have g5 := frz_blk hZ 5
      have g6 := frz_blk hZ 6
      have g7 := frz_blk hZ 7
      have g8 := frz_blk hZ 8
      have g9 := frz_blk hZ 9
      rw [p0.out] at hY
      replace hA := Lib.hid hA
      replace hZ := Lib.hid hZ
      replace hO := Lib.hid hO
      replace hY := Lib.hid hY
      go_wp2
      exact bodyPost_ret (v := numV [y0, y1, y2, y3, y4, y5, y6, y7, y8, y9]) (ret_num rfl rfl rfl (set10 rfl hZ.out)) rfl ⟨by rw [hY.out], ht.trans touch10 fun i hi q => by omega⟩
    | succ j =>
      have hj : (((j + 1 : Nat) : Int) - 1) = (j : Int) := by omega
      rw [hj]
      clear hj
      have hj0 : (0 : Int) ≤ (j : Int) := by omega
      have hj9 : (j : Int) < 255 := by omega
      have hT := Lib.hid (fun w => times_gen w _ _ (pw (j + 1)) (pw (j + 1)) (lit_eq hY) (lit_eq hY) (rpw.out (j + 1)) (rpw.out (j + 1)))
      replace hA := Lib.hid hA
      replace hZ := Lib.hid hZ
      replace hO := Lib.hid hO
      replace hY := Lib.hid hY
      go_upto_region 5 with fail
      go_cut [12] (fun v wx => ∃ z0 z1 z2 z3 z4 z5 z6 z7 z8 z9 : Int, Hid (canL (mulZ (pw (j + 1)) (pw (j + 1))) 10 = [z0, z1, z2, z3, z4, z5, z6, z7, z8, z9]) ∧ wx.heap[w2.heap.size]? = some (numC [z0, z1, z2, z3, z4, z5, z6, z7, z8, z9]) ∧ Touch (fun i => i = w2.heap.size) wr wx)
      case first =>
        go_wp2_with (go_at_call 55; refine (hT.out _).mono ?_; rintro r w3 ⟨⟨z0, z1, z2, z3, z4, z5, z6, z7, z8, z9, rfl, hz⟩, t3⟩; replace hz := Lib.hid hz; have hO2 := touch_heap0 t3 hO.out; obtain ⟨d0, d1, d2, d3, d4, d5, d6, d7, d8, d9⟩ := num_cells hO2; have g0 := frz_blk hO2 0; have g1 := frz_blk hO2 1; have g2 := frz_blk hO2 2; have g3 := frz_blk hO2 3; have g4 := frz_blk hO2 4; have g5 := frz_blk hO2 5; have g6 := frz_blk hO2 6; have g7 := frz_blk hO2 7; have g8 := frz_blk hO2 8; have g9 := frz_blk hO2 9; replace hO2 := Lib.hid hO2)
        go_meet
        exact ⟨_, _, _, _, _, _, _, _, _, _, hz, set10 rfl hO2.out, Touch.trans (F := fun i => i = w2.heap.size) (t3.mono fun _ _ q => q.elim) touch10 fun i hi q => q⟩
      case rest =>
        obtain ⟨z0, z1, z2, z3, z4, z5, z6, z7, z8, z9, hz, hO2, t3⟩ := hcut
        have hA2 := t3.heap hA.out (show ¬ w.heap.size = w2.heap.size by omega)
        have hZ2 := t3.heap hZ.out (show ¬ w.heap.size + 1 = w2.heap.size by omega)
        have ht3 : Touch Nothing w wc := ht.trans t3 fun i hi q => by omega
        clear c0 c1 c2 c3 c4 c5 c6 c7 c8 c9 hA hZ hO hT
        by_cases hb : j = 2 ∨ j = 4
        · have hss := Lib.hid (s0.out j (by omega) hb)
          replace hA2 := Lib.hid hA2
          replace hZ2 := Lib.hid hZ2
          replace hO2 := Lib.hid hO2
          rcases hb with rfl | rfl
          · go_wp2
            exact ⟨⟨2, by omega, rfl, hA2.out, hZ2.out, by rw [← hss.out, hz.out]; exact hO2.out, ht3⟩, by simp [intOf]⟩
          · go_wp2
            exact ⟨⟨4, by omega, rfl, hA2.out, hZ2.out, by rw [← hss.out, hz.out]; exact hO2.out, ht3⟩, by simp [intOf]⟩
        · have hss := Lib.hid (s1.out j (by omega) hb)
          have e2 : ((j : Int) != 2) = true := by simp; omega
          have e4 : ((j : Int) != 4) = true := by simp; omega
          have hT2 := Lib.hid (fun w => times_gen w _ _ (mulZ (pw (j + 1)) (pw (j + 1))) x (lit_eq hz.out) (lit_eq hX.out) (rng_mul _ _) hx.out)
          obtain ⟨c0, c1, c2, c3, c4, c5, c6, c7, c8, c9⟩ := num_cells hO2
          obtain ⟨a0, a1, a2, a3, a4, a5, a6, a7, a8, a9⟩ := num_cells hA2
          replace hA2 := Lib.hid hA2
          replace hZ2 := Lib.hid hZ2
          replace hO2 := Lib.hid hO2
          replace hb := Lib.hid hb
          go_wp2_with (go_at_call 55; refine (hT2.out _).mono ?_; rintro r w5 ⟨⟨u0, u1, u2, u3, u4, u5, u6, u7, u8, u9, rfl, hu⟩, t5⟩; replace hu := Lib.hid hu; have hO5 := touch_heap0 t5 hO2.out; obtain ⟨d0, d1, d2, d3, d4, d5, d6, d7, d8, d9⟩ := num_cells hO5; have g0 := frz_blk hO5 0; have g1 := frz_blk hO5 1; have g2 := frz_blk hO5 2; have g3 := frz_blk hO5 3; have g4 := frz_blk hO5 4; have g5 := frz_blk hO5 5; have g6 := frz_blk hO5 6; have g7 := frz_blk hO5 7; have g8 := frz_blk hO5 8; have g9 := frz_blk hO5 9; replace hO5 := Lib.hid hO5)
          have hbb := set10 (x0 := u0) (x1 := u1) (x2 := u2) (x3 := u3) (x4 := u4) (x5 := u5) (x6 := u6) (x7 := u7) (x8 := u8) (x9 := u9) rfl hO5.out
          have hto := touch10 (w := w5) (g := w2.heap.size) (v0 := .int .i64 u0) (v1 := .int .i64 u1) (v2 := .int .i64 u2) (v3 := .int .i64 u3) (v4 := .int .i64 u4) (v5 := .int .i64 u5) (v6 := .int .i64 u6) (v7 := .int .i64 u7) (v8 := .int .i64 u8) (v9 := .int .i64 u9)
          refine ⟨⟨j, by omega, rfl, hto.heap (touch_heap0 t5 hA2.out) (by omega), hto.heap (touch_heap0 t5 hZ2.out) (by omega), ?_, (ht3.trans' t5).trans hto fun i hi q => by omega⟩, by simp [intOf]⟩
          rw [← hss.out, hu.out]
          exact hbb

end Go.Proofs.Ytfnmnmjpcamkiaa
