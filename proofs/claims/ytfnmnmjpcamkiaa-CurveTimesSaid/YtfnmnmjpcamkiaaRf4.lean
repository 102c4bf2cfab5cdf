/-
  Layer 1, the reference: Plus, Less, walked. Printed by mkrf4.py.
-/
import Derived.Test.YtfnmnmjpcamkiaaRf3
namespace Go.Proofs.Ytfnmnmjpcamkiaa
open Go.RowKit
set_option linter.unusedVariables false
set_option linter.unusedSimpArgs false

/-- Digits are added as far as k. -/
structure AddInv (X D m : List Int) (k : Nat) : Prop where
  len : m.length = 10
  val : nv m = nv X + nv (D.take k)
  high : ∀ j, k ≤ j → m.getD j 0 = X.getD j 0
  low : ∀ j, j < k → -1099511627776 ≤ m.getD j 0 ∧ m.getD j 0 ≤ 1099511627776

def Lim (l : List Int) (b : Int) : Prop := ∀ j, -b ≤ l.getD j 0 ∧ l.getD j 0 ≤ b

theorem addInv_zero {X D : List Int} (h : X.length = 10) : AddInv X D X 0 := ⟨h, by simp [nv], fun _ _ => rfl, fun j hj => by omega⟩

theorem take_getD {D : List Int} {k : Nat} (h : k < D.length) : D.take (k + 1) = D.take k ++ [D.getD k 0] := by
  rw [List.take_succ_eq_append_getElem h]
  simp [List.getD_eq_getElem?_getD, List.getElem?_eq_getElem h]

theorem addInv_step {X D m : List Int} {k : Nat} (h : AddInv X D m k) (hD : D.length = 10) (hX : Lim X 274877906944) (hL : Lim D 274877906944) (hk : k < 10) : AddInv X D (m.set k (m.getD k 0 + D.getD k 0)) (k + 1) := by
  have hl := h.len
  have hp := hL k
  have hx := hX k
  rw [← h.high k (Nat.le_refl _)] at hx
  refine ⟨by simp [hl], ?_, fun j hj => ?_, fun j hj => ?_⟩
  · rw [nv_set _ _ _ (by omega), h.val, take_getD (by omega), nv_append]
    have e2 : (D.take k).length = k := by rw [List.length_take]; omega
    have e3 : nv [D.getD k 0] = D.getD k 0 := by simp [nv]
    rw [e2, e3, show m.getD k 0 + D.getD k 0 - m.getD k 0 = D.getD k 0 by omega]
    omega
  · rw [getD_set_other _ _ _ _ (by omega)]
    exact h.high j (by omega)
  · by_cases e : j = k
    · subst e
      rw [getD_set_same _ _ _ (by omega)]
      omega
    · rw [getD_set_other _ _ _ _ (by omega)]
      exact h.low j (by omega)

theorem addInv_mid {X D m : List Int} (h : AddInv X D m 10) : Mid m := fun j => by
  have hl := h.len
  by_cases hj : j < 10
  · exact h.low j hj
  · rw [List.getD_eq_getElem?_getD, List.getElem?_eq_none (by omega)]
    simp

theorem addInv_val {X D m : List Int} (h : AddInv X D m 10) (hD : D.length = 10) : nv m = nv X + nv D := by
  rw [h.val, List.take_of_length_le (by omega)]

theorem can_lim (x : Int) : Lim (canL x 10) 274877906944 := fun j => by have := canL_dig x 10 j; omega
theorem can_nv {x : Int} (h : Rng x) : nv (canL x 10) = x := nv_canL x 10 h.1 (by
  have h2 := h.2
  have p10 : (67108864 : Int) ^ 10 = 1852673427797059126777135760139006525652319754650249024631321344126610074238976 := by decide
  rw [p10]
  unfold PP at h2
  omega)

theorem can_ten (x : Int) : ∃ x0 x1 x2 x3 x4 x5 x6 x7 x8 x9, canL x 10 = [x0, x1, x2, x3, x4, x5, x6, x7, x8, x9] := ten (canL_length x 10)

theorem small_lit (w : World) (m0 m1 m2 m3 m4 m5 m6 m7 m8 m9 n : Int) (hm : Mid [m0, m1, m2, m3, m4, m5, m6, m7, m8, m9]) (h0 : 0 ≤ nv [m0, m1, m2, m3, m4, m5, m6, m7, m8, m9]) (hn : nv [m0, m1, m2, m3, m4, m5, m6, m7, m8, m9] % PP = n) :
    Calls Try.prog 83 #[.agg #[.int .i64 m0, .int .i64 m1, .int .i64 m2, .int .i64 m3, .int .i64 m4, .int .i64 m5, .int .i64 m6, .int .i64 m7, .int .i64 m8, .int .i64 m9]] w fun r w' => (∃ z0 z1 z2 z3 z4 z5 z6 z7 z8 z9 : Int, r = .returned (.agg #[.int .i64 z0, .int .i64 z1, .int .i64 z2, .int .i64 z3, .int .i64 z4, .int .i64 z5, .int .i64 z6, .int .i64 z7, .int .i64 z8, .int .i64 z9]) ∧ canL n 10 = [z0, z1, z2, z3, z4, z5, z6, z7, z8, z9]) ∧ Touch Nothing w w' := by
  subst hn
  refine (Small_any w [m0, m1, m2, m3, m4, m5, m6, m7, m8, m9] rfl hm h0).mono fun r w' hr => ?_
  obtain ⟨z0, z1, z2, z3, z4, z5, z6, z7, z8, z9, hz⟩ := can_ten (nv [m0, m1, m2, m3, m4, m5, m6, m7, m8, m9] % PP)
  refine ⟨⟨z0, z1, z2, z3, z4, z5, z6, z7, z8, z9, ?_, hz⟩, hr.2⟩
  rw [hr.1, hz]
  rfl

set_option maxRecDepth 100000 in
set_option maxHeartbeats 3200000 in
theorem Plus_ref (w : World) (x y : Int) (hx : Rng x) (hy : Rng y) :
    Calls Try.prog 54 #[numV (canL x 10), numV (canL y 10)] w fun r w' => r = .returned (numV (canL (addZ x y) 10)) ∧ Touch Nothing w w' := by
  obtain ⟨X, eX⟩ : ∃ X, X = canL x 10 := ⟨_, rfl⟩
  obtain ⟨Y, eY⟩ : ∃ Y, Y = canL y 10 := ⟨_, rfl⟩
  have lX : X.length = 10 := by rw [eX]; exact canL_length _ _
  have lY : Y.length = 10 := by rw [eY]; exact canL_length _ _
  have bX : Lim X 274877906944 := by rw [eX]; exact can_lim x
  have bY : Lim Y 274877906944 := by rw [eY]; exact can_lim y
  have vS : (nv X + nv Y) % PP = addZ x y := by rw [eX, eY, can_nv hx, can_nv hy]; rfl
  have pS : 0 ≤ nv X + nv Y := by rw [eX, eY, can_nv hx, can_nv hy]; have := hx.1; have := hy.1; omega
  rw [← eX, ← eY]
  have hA0 : (((w.alloc (numC X)).alloc (numC Y)).alloc (numC zeroN)).heap[w.heap.size]? = some (numC X) := by
    rw [Below.heap_alloc _ _ _ (by simp; omega), Below.heap_alloc _ _ _ (by simp)]; exact heap_alloc_new _ _
  have hY0 : (((w.alloc (numC X)).alloc (numC Y)).alloc (numC zeroN)).heap[w.heap.size + 1]? = some (numC Y) := by
    rw [Below.heap_alloc _ _ _ (by simp)]
    have := heap_alloc_new (w.alloc (numC X)) (numC Y)
    simpa using this
  have hZ0 : (((w.alloc (numC X)).alloc (numC Y)).alloc (numC zeroN)).heap[w.heap.size + 1 + 1]? = some (numC zeroN) := by
    have := heap_alloc_new ((w.alloc (numC X)).alloc (numC Y)) (numC zeroN)
    simpa using this
  have hS0 := Lib.hid (addInv_zero (D := Y) lX)
  obtain ⟨s, es⟩ : ∃ s, s = addZ x y := ⟨_, rfl⟩
  rw [← es] at vS ⊢
  replace hA0 := Lib.hid hA0
  replace hY0 := Lib.hid hY0
  replace hZ0 := Lib.hid hZ0
  replace eX := Lib.hid eX
  replace eY := Lib.hid eY
  replace lX := Lib.hid lX
  replace lY := Lib.hid lY
  replace bX := Lib.hid bX
  replace bY := Lib.hid bY
  replace vS := Lib.hid vS
  replace pS := Lib.hid pS
  replace es := Lib.hid es
  clear hx hy
  unfold numV
  go_enter Try.func54, Try.ntmps54
  go_wp2
  go_loopw [5] (fun iv wr => ∃ k : Nat, ∃ m : List Int, k ≤ 10 ∧ iv = .int .i64 (k : Int) ∧ Hid (AddInv X Y m k) ∧ wr.heap[w.heap.size]? = some (numC m) ∧ wr.heap[w.heap.size + 1]? = some (numC Y) ∧ wr.heap[w.heap.size + 1 + 1]? = some (numC zeroN) ∧ Touch Nothing w wr) (fun iv _ => 10 - (intOf iv).toNat)
  case atStart => exact ⟨0, X, by omega, rfl, hS0, hA0.out, hY0.out, hZ0.out, (((Touch.refl _ _).alloc _).alloc _).alloc _⟩
  case round =>
    obtain ⟨k, m, hk, rfl, hS, hA, hY, hZ, ht⟩ := hrel
    by_cases hlt : k < 10
    · have c1 := (cell_blk hA k).trans (numA_cell m k (by rw [hS.out.len]; exact hlt))
      have c2 := (cell_blk hY k).trans (numA_cell Y k (by rw [lY.out]; exact hlt))
      have f1 := frz_blk hA k
      have hxk := bX.out k
      have hyk := bY.out k
      rw [← hS.out.high k (Nat.le_refl _)] at hxk
      have hst := Lib.hid (addInv_step hS.out lY.out bX.out bY.out hlt)
      obtain ⟨p, hp⟩ : ∃ p, p = m.getD k 0 := ⟨_, rfl⟩
      obtain ⟨q, hq⟩ : ∃ q, q = Y.getD k 0 := ⟨_, rfl⟩
      rw [← hp] at c1 hxk hst
      rw [← hq] at c2 hyk hst
      replace hp := Lib.hid hp
      replace hq := Lib.hid hq
      replace hA := Lib.hid hA
      replace hY := Lib.hid hY
      replace hZ := Lib.hid hZ
      have hk0 : (0 : Int) ≤ (k : Int) := by omega
      have hk9 : (k : Int) < 10 := by omega
      have w1 := wrap_i64 (p + q) (by omega)
      go_upto_region 4 with fail
      go_region
      go_wp2
      have hto := (touch_el1 (i := k) (v := .int .i64 (p + q)) (Touch.refl (fun j => j = w.heap.size) wr)).drew
      have e1 := heap_setCell_same hA.out k (.int .i64 (p + q))
      rw [numA_set] at e1
      exact ⟨⟨k + 1, _, by omega, by simp, hst, e1, hto.heap hY.out (by omega), hto.heap hZ.out (by omega), ht.trans hto fun i hi q => by omega⟩, by simp [intOf]; omega⟩
    · obtain rfl : k = 10 := by omega
      have hmid := addInv_mid hS.out
      have hval := addInv_val hS.out lY.out
      have h0 : 0 ≤ nv m := by rw [hval]; exact pS.out
      have hmod : nv m % PP = s := by rw [hval]; exact vS.out
      obtain ⟨m0, m1, m2, m3, m4, m5, m6, m7, m8, m9, rfl⟩ := ten hS.out.len
      obtain ⟨c0, c1, c2, c3, c4, c5, c6, c7, c8, c9⟩ := num_cells hA
      have hSm := Lib.hid (fun w => small_lit w m0 m1 m2 m3 m4 m5 m6 m7 m8 m9 s hmid h0 hmod)
      replace hA := Lib.hid hA
      replace hZ := Lib.hid hZ
      clear hmid hval h0 hmod hY
      go_wp2_with (go_at_call 83; refine (hSm.out _).mono ?_; rintro r w2 ⟨⟨z0, z1, z2, z3, z4, z5, z6, z7, z8, z9, rfl, hz⟩, t2⟩; replace hz := Lib.hid hz; have hZ2 := touch_heap0 t2 hZ.out; obtain ⟨d0, d1, d2, d3, d4, d5, d6, d7, d8, d9⟩ := num_cells (show w2.heap[w.heap.size + 1 + 1]? = some (numC [0, 0, 0, 0, 0, 0, 0, 0, 0, 0]) from hZ2); have g0 := frz_blk hZ2 0; have g1 := frz_blk hZ2 1; have g2 := frz_blk hZ2 2; have g3 := frz_blk hZ2 3; have g4 := frz_blk hZ2 4; have g5 := frz_blk hZ2 5; have g6 := frz_blk hZ2 6; have g7 := frz_blk hZ2 7; have g8 := frz_blk hZ2 8; have g9 := frz_blk hZ2 9; replace hZ2 := Lib.hid hZ2)
      exact bodyPost_ret (v := numV [z0, z1, z2, z3, z4, z5, z6, z7, z8, z9]) (ret_num rfl rfl rfl (set10 rfl hZ2.out)) rfl ⟨by rw [hz.out]; rfl, (ht.trans' t2).trans touch10 fun i hi q => by omega⟩

def subD (Y : List Int) : List Int := (List.range 10).map fun j => PN.getD j 0 - Y.getD j 0
theorem subD_len (Y : List Int) : (subD Y).length = 10 := by simp [subD]
theorem subD_get (Y : List Int) (k : Nat) (h : k < 10) : (subD Y).getD k 0 = PN.getD k 0 - Y.getD k 0 := by
  simp [subD, List.getD_eq_getElem?_getD, h]
theorem subD_val {Y : List Int} (h : Y.length = 10) : nv (subD Y) = PP - nv Y := by
  obtain ⟨y0, y1, y2, y3, y4, y5, y6, y7, y8, y9, rfl⟩ := ten h
  have e : subD [y0, y1, y2, y3, y4, y5, y6, y7, y8, y9] = [67108845 - y0, 67108863 - y1, 67108863 - y2, 67108863 - y3, 67108863 - y4, 67108863 - y5, 67108863 - y6, 67108863 - y7, 67108863 - y8, 2097151 - y9] := rfl
  rw [e, nv_lit, nv_lit]
  unfold PP
  omega
theorem subD_lim {Y : List Int} (h : Dig Y) : Lim (subD Y) 274877906944 := fun j => by
  by_cases hj : j < 10
  · rw [subD_get Y j hj]
    have := PN_get j hj
    have := h j
    omega
  · rw [List.getD_eq_getElem?_getD, List.getElem?_eq_none (by rw [subD_len]; omega)]
    simp

set_option maxRecDepth 100000 in
set_option maxHeartbeats 3200000 in
theorem Less_ref (w : World) (x y : Int) (hx : Rng x) (hy : Rng y) :
    Calls Try.prog 67 #[numV (canL x 10), numV (canL y 10)] w fun r w' => r = .returned (numV (canL (subZ x y) 10)) ∧ Touch Nothing w w' := by
  obtain ⟨X, eX⟩ : ∃ X, X = canL x 10 := ⟨_, rfl⟩
  obtain ⟨Y, eY⟩ : ∃ Y, Y = canL y 10 := ⟨_, rfl⟩
  obtain ⟨D, eD⟩ : ∃ D, D = subD Y := ⟨_, rfl⟩
  have lX : X.length = 10 := by rw [eX]; exact canL_length _ _
  have lY : Y.length = 10 := by rw [eY]; exact canL_length _ _
  have lD : D.length = 10 := by rw [eD]; exact subD_len Y
  have bX : Lim X 274877906944 := by rw [eX]; exact can_lim x
  have bY : Dig Y := by rw [eY]; exact canL_dig y 10
  have bD : Lim D 274877906944 := by rw [eD]; exact subD_lim bY
  have vS : (nv X + nv D) % PP = subZ x y := by rw [eX, eD, subD_val lY, eY, can_nv hx, can_nv hy, show x + (PP - y) = x - y + PP by omega, Int.add_emod_right]; rfl
  have pS : 0 ≤ nv X + nv D := by rw [eX, eD, subD_val lY, eY, can_nv hx, can_nv hy]; have := hx.1; have := hy.2; omega
  rw [← eX, ← eY]
  have hA0 : (((w.alloc (numC X)).alloc (numC Y)).alloc (numC zeroN)).heap[w.heap.size]? = some (numC X) := by
    rw [Below.heap_alloc _ _ _ (by simp; omega), Below.heap_alloc _ _ _ (by simp)]; exact heap_alloc_new _ _
  have hY0 : (((w.alloc (numC X)).alloc (numC Y)).alloc (numC zeroN)).heap[w.heap.size + 1]? = some (numC Y) := by
    rw [Below.heap_alloc _ _ _ (by simp)]
    have := heap_alloc_new (w.alloc (numC X)) (numC Y)
    simpa using this
  have hZ0 : (((w.alloc (numC X)).alloc (numC Y)).alloc (numC zeroN)).heap[w.heap.size + 1 + 1]? = some (numC zeroN) := by
    have := heap_alloc_new ((w.alloc (numC X)).alloc (numC Y)) (numC zeroN)
    simpa using this
  have hS0 := Lib.hid (addInv_zero (D := D) lX)
  obtain ⟨s, es⟩ : ∃ s, s = subZ x y := ⟨_, rfl⟩
  rw [← es] at vS ⊢
  replace hA0 := Lib.hid hA0
  replace hY0 := Lib.hid hY0
  replace hZ0 := Lib.hid hZ0
  replace eX := Lib.hid eX
  replace eY := Lib.hid eY
  replace eD := Lib.hid eD
  replace lX := Lib.hid lX
  replace lY := Lib.hid lY
  replace lD := Lib.hid lD
  replace bX := Lib.hid bX
  replace bY := Lib.hid bY
  replace bD := Lib.hid bD
  replace vS := Lib.hid vS
  replace pS := Lib.hid pS
  replace es := Lib.hid es
  clear hx hy
  unfold numV
  go_enter Try.func67, Try.ntmps67
  go_upto_region 2 with (go_at_call 61; refine (P_lit _).mono ?_; rintro r w2 ⟨rfl, t2⟩)
  have hA1 : (w2.alloc (numC PN)).heap[w.heap.size]? = some (numC X) := touch_heap0 ((Touch.refl Nothing w2).alloc _) (touch_heap0 t2 hA0.out)
  have hY1 : (w2.alloc (numC PN)).heap[w.heap.size + 1]? = some (numC Y) := touch_heap0 ((Touch.refl Nothing w2).alloc _) (touch_heap0 t2 hY0.out)
  have hZ1 : (w2.alloc (numC PN)).heap[w.heap.size + 1 + 1]? = some (numC zeroN) := touch_heap0 ((Touch.refl Nothing w2).alloc _) (touch_heap0 t2 hZ0.out)
  have hP1 : (w2.alloc (numC PN)).heap[w2.heap.size]? = some (numC PN) := heap_alloc_new _ _
  have ht1 : Touch Nothing w (w2.alloc (numC PN)) := (((((Touch.refl _ _).alloc _).alloc _).alloc _).trans' t2).alloc _
  have hlt2 := lt_of_heap hZ0.out
  have hsz2 : (((w.alloc (numC X)).alloc (numC Y)).alloc (numC zeroN)).heap.size ≤ w2.heap.size := t2.size
  replace hA1 := Lib.hid hA1
  replace hY1 := Lib.hid hY1
  replace hZ1 := Lib.hid hZ1
  replace hP1 := Lib.hid hP1
  replace ht1 := Lib.hid ht1
  go_wp2
  go_loopw [6] (fun iv wr => ∃ k : Nat, ∃ m : List Int, k ≤ 10 ∧ iv = .int .i64 (k : Int) ∧ Hid (AddInv X D m k) ∧ wr.heap[w.heap.size]? = some (numC m) ∧ wr.heap[w.heap.size + 1]? = some (numC Y) ∧ wr.heap[w.heap.size + 1 + 1]? = some (numC zeroN) ∧ wr.heap[w2.heap.size]? = some (numC PN) ∧ Touch Nothing w wr) (fun iv _ => 10 - (intOf iv).toNat)
  case atStart => exact ⟨0, X, by omega, rfl, hS0, hA1.out, hY1.out, hZ1.out, hP1.out, ht1.out⟩
  case round =>
    obtain ⟨k, m, hk, rfl, hS, hA, hY, hZ, hP, ht⟩ := hrel
    by_cases hlt : k < 10
    · have c1 := (cell_blk hA k).trans (numA_cell m k (by rw [hS.out.len]; exact hlt))
      have c2 := (cell_blk hY k).trans (numA_cell Y k (by rw [lY.out]; exact hlt))
      have c3 := (cell_blk hP k).trans (numA_cell PN k hlt)
      have f1 := frz_blk hA k
      have hxk := bX.out k
      have hyk := bY.out k
      have hpk := PN_get k hlt
      rw [← hS.out.high k (Nat.le_refl _)] at hxk
      have hst := addInv_step hS.out lD.out bX.out bD.out hlt
      rw [eD.out, subD_get Y k hlt, ← eD.out] at hst
      replace hst := Lib.hid hst
      obtain ⟨p, hp⟩ : ∃ p, p = m.getD k 0 := ⟨_, rfl⟩
      obtain ⟨q, hq⟩ : ∃ q, q = Y.getD k 0 := ⟨_, rfl⟩
      obtain ⟨u, hu⟩ : ∃ u, u = PN.getD k 0 := ⟨_, rfl⟩
      rw [← hp] at c1 hxk hst
      rw [← hq] at c2 hyk hst
      rw [← hu] at c3 hpk hst
      replace hp := Lib.hid hp
      replace hq := Lib.hid hq
      replace hu := Lib.hid hu
      replace hA := Lib.hid hA
      replace hY := Lib.hid hY
      replace hZ := Lib.hid hZ
      replace hP := Lib.hid hP
      have hk0 : (0 : Int) ≤ (k : Int) := by omega
      have hk9 : (k : Int) < 10 := by omega
      have w0 := wrap_i64 (u - q) (by omega)
      have w1 := wrap_i64 (p + (u - q)) (by omega)
      go_upto_region 5 with fail
      go_region
      go_wp2
      have hto := (touch_el1 (i := k) (v := .int .i64 (p + (u - q))) (Touch.refl (fun j => j = w.heap.size) wr)).drew
      have e1 := heap_setCell_same hA.out k (.int .i64 (p + (u - q)))
      rw [numA_set] at e1
      exact ⟨⟨k + 1, _, by omega, by simp, hst, e1, hto.heap hY.out (by omega), hto.heap hZ.out (by omega), hto.heap hP.out (by omega), ht.trans hto fun i hi q => by omega⟩, by simp [intOf]; omega⟩
    · obtain rfl : k = 10 := by omega
      have hmid := addInv_mid hS.out
      have hval := addInv_val hS.out lD.out
      have h0 : 0 ≤ nv m := by rw [hval]; exact pS.out
      have hmod : nv m % PP = s := by rw [hval]; exact vS.out
      obtain ⟨m0, m1, m2, m3, m4, m5, m6, m7, m8, m9, rfl⟩ := ten hS.out.len
      obtain ⟨c0, c1, c2, c3, c4, c5, c6, c7, c8, c9⟩ := num_cells hA
      have hSm := Lib.hid (fun w => small_lit w m0 m1 m2 m3 m4 m5 m6 m7 m8 m9 s hmid h0 hmod)
      replace hA := Lib.hid hA
      replace hZ := Lib.hid hZ
      clear hmid hval h0 hmod hY hP
      go_wp2_with (go_at_call 83; refine (hSm.out _).mono ?_; rintro r w2 ⟨⟨z0, z1, z2, z3, z4, z5, z6, z7, z8, z9, rfl, hz⟩, t2⟩; replace hz := Lib.hid hz; have hZ2 := touch_heap0 t2 hZ.out; obtain ⟨d0, d1, d2, d3, d4, d5, d6, d7, d8, d9⟩ := num_cells (show w2.heap[w.heap.size + 1 + 1]? = some (numC [0, 0, 0, 0, 0, 0, 0, 0, 0, 0]) from hZ2); have g0 := frz_blk hZ2 0; have g1 := frz_blk hZ2 1; have g2 := frz_blk hZ2 2; have g3 := frz_blk hZ2 3; have g4 := frz_blk hZ2 4; have g5 := frz_blk hZ2 5; have g6 := frz_blk hZ2 6; have g7 := frz_blk hZ2 7; have g8 := frz_blk hZ2 8; have g9 := frz_blk hZ2 9; replace hZ2 := Lib.hid hZ2)
      exact bodyPost_ret (v := numV [z0, z1, z2, z3, z4, z5, z6, z7, z8, z9]) (ret_num rfl rfl rfl (set10 rfl hZ2.out)) rfl ⟨by rw [hz.out]; rfl, (ht.trans' t2).trans touch10 fun i hi q => by omega⟩

end Go.Proofs.Ytfnmnmjpcamkiaa
