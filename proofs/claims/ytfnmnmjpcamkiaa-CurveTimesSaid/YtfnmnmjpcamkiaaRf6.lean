/-
  Layer 1, the reference: Times, walked. Printed by mkrf6.py.
-/
import Derived.Test.YtfnmnmjpcamkiaaRf5
namespace Go.Proofs.Ytfnmnmjpcamkiaa
open Go.RowKit
set_option linter.unusedVariables false
set_option linter.unusedSimpArgs false

theorem wide_set {w : World} {g : Nat} {l : List Int} (h : w.heap[g]? = some (wideC l)) (i : Nat) (v : Int) : (w.setCell ⟨g, i, none⟩ (.int .i64 v)).heap[g]? = some (wideC (l.set i v)) := by
  have := heap_setCell_same h i (.int .i64 v)
  rw [numA_set] at this
  exact this
theorem num_set {w : World} {g : Nat} {l : List Int} (h : w.heap[g]? = some (numC l)) (i : Nat) (v : Int) : (w.setCell ⟨g, i, none⟩ (.int .i64 v)).heap[g]? = some (numC (l.set i v)) := by
  have := heap_setCell_same h i (.int .i64 v)
  rw [numA_set] at this
  exact this

set_option maxRecDepth 100000 in
set_option maxHeartbeats 12800000 in
theorem Times_ref (w : World) (x y : Int) (hx : Rng x) (hy : Rng y) :
    Calls Try.prog 55 #[numV (canL x 10), numV (canL y 10)] w fun r w' => r = .returned (numV (canL (mulZ x y) 10)) ∧ Touch Nothing w w' := by
  obtain ⟨X, eX⟩ : ∃ X, X = canL x 10 := ⟨_, rfl⟩
  obtain ⟨Y, eY⟩ : ∃ Y, Y = canL y 10 := ⟨_, rfl⟩
  have lX : X.length = 10 := by rw [eX]; exact canL_length _ _
  have lY : Y.length = 10 := by rw [eY]; exact canL_length _ _
  have dX : Dig X := by rw [eX]; exact canL_dig x 10
  have dY : Dig Y := by rw [eY]; exact canL_dig y 10
  have vX : nv X = x := by rw [eX]; exact can_nv hx
  have vY : nv Y = y := by rw [eY]; exact can_nv hy
  have p0 : 0 ≤ x * y := Int.mul_nonneg hx.1 hy.1
  have p1 : x * y < 3351951982485649274893506249551461531869841455148098344430890360930441007518386744200468574541725856922507964546621512713438470702986642486608412251521024 := by
    have h1 := mulb hx.1 hx.2 hy.1 hy.2
    have h2 : PP * PP < 3351951982485649274893506249551461531869841455148098344430890360930441007518386744200468574541725856922507964546621512713438470702986642486608412251521024 := by decide
    omega
  rw [← eX, ← eY]
  have hA0 : ((((w.alloc (numC X)).alloc (numC Y)).alloc (numC zeroN)).alloc (wideC zeroW)).heap[w.heap.size]? = some (numC X) := by
    rw [Below.heap_alloc _ _ _ (by simp; omega), Below.heap_alloc _ _ _ (by simp; omega), Below.heap_alloc _ _ _ (by simp)]; exact heap_alloc_new _ _
  have hY0 : ((((w.alloc (numC X)).alloc (numC Y)).alloc (numC zeroN)).alloc (wideC zeroW)).heap[w.heap.size + 1]? = some (numC Y) := by
    rw [Below.heap_alloc _ _ _ (by simp), Below.heap_alloc _ _ _ (by simp)]
    have := heap_alloc_new (w.alloc (numC X)) (numC Y)
    simpa using this
  have hZ0 : ((((w.alloc (numC X)).alloc (numC Y)).alloc (numC zeroN)).alloc (wideC zeroW)).heap[w.heap.size + 1 + 1]? = some (numC zeroN) := by
    rw [Below.heap_alloc _ _ _ (by simp)]
    have := heap_alloc_new ((w.alloc (numC X)).alloc (numC Y)) (numC zeroN)
    simpa using this
  have hW0 : ((((w.alloc (numC X)).alloc (numC Y)).alloc (numC zeroN)).alloc (wideC zeroW)).heap[w.heap.size + 1 + 1 + 1]? = some (wideC zeroW) := by
    have := heap_alloc_new (((w.alloc (numC X)).alloc (numC Y)).alloc (numC zeroN)) (wideC zeroW)
    simpa using this
  have hS0 := Lib.hid (mulInv_zero X Y)
  obtain ⟨s, es⟩ : ∃ s, s = mulZ x y := ⟨_, rfl⟩
  rw [← es]
  replace hA0 := Lib.hid hA0
  replace hY0 := Lib.hid hY0
  replace hZ0 := Lib.hid hZ0
  replace hW0 := Lib.hid hW0
  replace eX := Lib.hid eX
  replace eY := Lib.hid eY
  replace lX := Lib.hid lX
  replace lY := Lib.hid lY
  replace dX := Lib.hid dX
  replace dY := Lib.hid dY
  replace vX := Lib.hid vX
  replace vY := Lib.hid vY
  replace p0 := Lib.hid p0
  replace p1 := Lib.hid p1
  replace es := Lib.hid es
  clear hx hy
  unfold numV
  go_enter Try.func55, Try.ntmps55
  go_wp2
  go_loopw [6] (fun iv wr => ∃ i : Nat, ∃ W : List Int, i ≤ 10 ∧ iv = .int .i64 (i : Int) ∧ Hid (MulInv X Y W i 0) ∧ wr.heap[w.heap.size]? = some (numC X) ∧ wr.heap[w.heap.size + 1]? = some (numC Y) ∧ wr.heap[w.heap.size + 1 + 1]? = some (numC zeroN) ∧ wr.heap[w.heap.size + 1 + 1 + 1]? = some (wideC W) ∧ Touch Nothing w wr) (fun iv _ => 10 - (intOf iv).toNat)
  case atStart => exact ⟨0, zeroW, by omega, rfl, hS0, hA0.out, hY0.out, hZ0.out, hW0.out, ((((Touch.refl _ _).alloc _).alloc _).alloc _).alloc _⟩
  case round =>
    obtain ⟨i, W, hi, rfl, hS, hA, hY, hZ, hW, ht⟩ := hrel
    obtain ⟨wo, rfl⟩ : ∃ wo : World, wo = wr := ⟨_, rfl⟩
    by_cases hilt : i < 10
    · have hi0 : (0 : Int) ≤ (i : Int) := by omega
      have hi9 : (i : Int) < 10 := by omega
      replace hA := Lib.hid hA
      replace hY := Lib.hid hY
      replace hZ := Lib.hid hZ
      replace hW := Lib.hid hW
      replace ht := Lib.hid ht
      go_wp2
      go_loopw [7] (fun kv wr => ∃ k : Nat, ∃ W : List Int, k ≤ 10 ∧ kv = .int .i64 (k : Int) ∧ Hid (MulInv X Y W i k) ∧ wr.heap[w.heap.size]? = some (numC X) ∧ wr.heap[w.heap.size + 1]? = some (numC Y) ∧ wr.heap[w.heap.size + 1 + 1]? = some (numC zeroN) ∧ wr.heap[w.heap.size + 1 + 1 + 1]? = some (wideC W) ∧ Touch Nothing w wr) (fun kv _ => 10 - (intOf kv).toNat)
      case atStart => exact ⟨0, W, by omega, rfl, hS, hA.out, hY.out, hZ.out, hW.out, ht.out⟩
      case round =>
        clear hA hY hZ hW hS
        obtain ⟨k, V, hk, rfl, hS, hA, hY, hZ, hW, ht2⟩ := hrel
        by_cases hlt : k < 10
        · have c1 := (cell_blk hA i).trans (numA_cell X i (by rw [lX.out]; exact hilt))
          have c2 := (cell_blk hY k).trans (numA_cell Y k (by rw [lY.out]; exact hlt))
          have c3 := (cell_blk hW (i + k)).trans (numA_cell V (i + k) (by rw [hS.out.len]; omega))
          have f3 := frz_blk hW (i + k)
          have hpr := dig_mul (dX.out i) (dY.out k)
          have hw0 := hS.out.pos (i + k)
          have hw1 := hS.out.far (i + k) (Nat.le_refl _)
          have hst := Lib.hid (mulInv_step hS.out dX.out dY.out lY.out hilt hlt)
          obtain ⟨p, hp⟩ : ∃ p, p = X.getD i 0 := ⟨_, rfl⟩
          obtain ⟨q, hq⟩ : ∃ q, q = Y.getD k 0 := ⟨_, rfl⟩
          obtain ⟨u, hu⟩ : ∃ u, u = V.getD (i + k) 0 := ⟨_, rfl⟩
          rw [← hp] at c1 hpr hst
          rw [← hq] at c2 hpr hst
          rw [← hu] at c3 hw0 hw1 hst
          obtain ⟨pq, hpq⟩ : ∃ pq, p * q = pq := ⟨_, rfl⟩
          rw [hpq] at hpr hst
          replace hp := Lib.hid hp
          replace hq := Lib.hid hq
          replace hu := Lib.hid hu
          have hk0 : (0 : Int) ≤ (k : Int) := by omega
          have hk9 : (k : Int) < 10 := by omega
          have hik0 : (0 : Int) ≤ (i : Int) + (k : Int) := by omega
          have hik9 : (i : Int) + (k : Int) < 20 := by omega
          have w0 := wrap_i64 pq (by omega)
          have w1 := wrap_i64 (u + pq) (by omega)
          have eik : ((i : Int) + (k : Int)).toNat = i + k := by omega
          replace hA := Lib.hid hA
          replace hY := Lib.hid hY
          replace hZ := Lib.hid hZ
          replace hW := Lib.hid hW
          clear hw1
          go_upto_region 8 with fail
          go_region
          go_wp2
          have hto := (touch_el1 (i := i + k) (v := .int .i64 (u + pq)) (Touch.refl (fun j => j = w.heap.size + 1 + 1 + 1) wr)).drew
          exact ⟨⟨k + 1, _, by omega, by simp, hst, hto.heap hA.out (by omega), hto.heap hY.out (by omega), hto.heap hZ.out (by omega), wide_set hW.out (i + k) (u + pq), ht2.trans hto fun i hi q => by omega⟩, by simp [intOf]; omega⟩
        · obtain rfl : k = 10 := by omega
          have hnx := Lib.hid (mulInv_next hS.out lX.out lY.out hilt)
          replace hA := Lib.hid hA
          replace hY := Lib.hid hY
          replace hZ := Lib.hid hZ
          replace hW := Lib.hid hW
          go_wp2
          refine ⟨?_, ?_⟩
          · first | exact ⟨i + 1, V, by omega, by simp, hnx, hA.out, hY.out, hZ.out, hW.out, ht2⟩ | ((repeat apply Exists.intro); exact ⟨⟨i + 1, V, by omega, by simp, hnx, hA.out, hY.out, hZ.out, hW.out, ht2⟩, rfl⟩)
          · simp [intOf]; omega
    · obtain rfl : i = 10 := by omega
      have hbig := Lib.hid (mulInv_big hS.out)
      have hval := mulInv_val hS.out lX.out
      rw [vX.out, vY.out] at hval
      have hlen := hS.out.len
      have hC0 := Lib.hid (carInv_zero hbig.out)
      replace hval := Lib.hid hval
      replace hlen := Lib.hid hlen
      replace hZ := Lib.hid hZ
      replace hW := Lib.hid hW
      replace ht := Lib.hid ht
      clear hA hY
      go_wp2
      go_loopw [8] (fun iv wr => ∃ k : Nat, ∃ V : List Int, k ≤ 19 ∧ iv = .int .i64 (k : Int) ∧ Hid (CarInv W V k) ∧ wr.heap[w.heap.size + 1 + 1]? = some (numC zeroN) ∧ wr.heap[w.heap.size + 1 + 1 + 1]? = some (wideC V) ∧ Touch Nothing w wr) (fun iv _ => 19 - (intOf iv).toNat)
      case atStart => exact ⟨0, W, by omega, rfl, hC0, hZ.out, hW.out, ht.out⟩
      case round =>
        clear hZ hW
        obtain ⟨k, V, hk, rfl, hI, hZ, hW, ht2⟩ := hrel
        have hlenV : V.length = 20 := by rw [hI.out.len, hlen.out]
        by_cases hlt : k < 19
        · have c1 := (cell_blk hW k).trans (numA_cell V k (by omega))
          have c2 := (cell_blk hW (k + 1)).trans (numA_cell V (k + 1) (by omega))
          have f1 := frz_blk hW k
          have f2 := frz_blk hW (k + 1)
          have hst := Lib.hid (carInv_step hI.out hbig.out (by rw [hlen.out]; omega))
          have hcur := hI.out.cur
          have hnx := hbig.out (k + 1)
          rw [← hI.out.high (k + 1) (by omega)] at hnx
          obtain ⟨p, hp⟩ : ∃ p, p = V.getD k 0 := ⟨_, rfl⟩
          obtain ⟨q, hq⟩ : ∃ q, q = V.getD (k + 1) 0 := ⟨_, rfl⟩
          rw [← hp] at c1 hcur hst
          rw [← hq] at c2 hnx hst
          replace hp := Lib.hid hp
          replace hq := Lib.hid hq
          replace hlenV := Lib.hid hlenV
          replace hZ := Lib.hid hZ
          replace hW := Lib.hid hW
          have hk0 : (0 : Int) ≤ (k : Int) := by omega
          have hk1 : (0 : Int) ≤ (k : Int) + 1 := by omega
          have hk9 : (k : Int) + 1 < 20 := by omega
          have w1 := wrap_i64 (p / 67108864 * 67108864) (by omega)
          have w2 := wrap_i64 (p - p / 67108864 * 67108864) (by omega)
          have w3 := wrap_i64 (q + p / 67108864) (by omega)
          go_wp2
          have hto := touch_el1 (i := k + 1) (v := .int .i64 (q + p / 67108864)) (touch_el1 (i := k) (v := .int .i64 (p - p / 67108864 * 67108864)) (Touch.refl (fun j => j = w.heap.size + 1 + 1 + 1) wr))
          refine ⟨⟨k + 1, _, by omega, by simp, hst, hto.heap hZ.out (by omega), ?_, ht2.trans hto fun i hi q => by omega⟩, by simp [intOf]; omega⟩
          rw [show p % 67108864 = p - p / 67108864 * 67108864 by omega]
          exact wide_set (wide_set hW.out k _) (k + 1) _
        · obtain rfl : k = 19 := by omega
          have hwo := Lib.hid (wide_of hI.out hlen.out hval.out p0.out p1.out)
          have hsz := ht2.size
          have hlw := lt_of_heap hW
          have hO0 := heap_alloc_new wr (numC (outK V 0))
          have hZ1 := touch_heap0 ((Touch.refl Nothing wr).alloc (numC (outK V 0))) hZ
          have hW1 := touch_heap0 ((Touch.refl Nothing wr).alloc (numC (outK V 0))) hW
          have ht3 := ht2.alloc (numC (outK V 0))
          replace hO0 := Lib.hid hO0
          replace hZ1 := Lib.hid hZ1
          replace hW1 := Lib.hid hW1
          replace ht3 := Lib.hid ht3
          replace hI := Lib.hid hI
          clear hZ hW ht2 hlenV
          obtain ⟨w5, rfl⟩ : ∃ w5 : World, w5 = wr := ⟨_, rfl⟩
          go_wp2
          go_loopw [11] (fun iv wr2 => ∃ k : Nat, k ≤ 10 ∧ iv = .int .i64 (k : Int) ∧ wr2.heap[w.heap.size + 1 + 1]? = some (numC zeroN) ∧ wr2.heap[w.heap.size + 1 + 1 + 1]? = some (wideC V) ∧ wr2.heap[w5.heap.size]? = some (numC (outK V k)) ∧ Touch Nothing w wr2) (fun iv _ => 10 - (intOf iv).toNat)
          case atStart => exact ⟨0, by omega, rfl, hZ1.out, hW1.out, hO0.out, ht3.out⟩
          case round =>
            clear hZ1 hW1 hO0 ht3
            obtain ⟨k, hk, rfl, hZ, hW, hO, ht4⟩ := hrel
            by_cases hlt : k < 10
            · have c1 := (cell_blk hW k).trans (numA_cell V k (by rw [hwo.out.1]; omega))
              have c2 := (cell_blk hW (10 + k)).trans (numA_cell V (10 + k) (by rw [hwo.out.1]; omega))
              have c3 := (cell_blk hO k).trans (numA_cell (outK V k) k (by rw [outK_len V k hk]; omega))
              have f3 := frz_blk hO k
              have b1 := hwo.out.2.2 k
              have b2 := hwo.out.2.2 (10 + k)
              have hst := outK_set V k hlt
              obtain ⟨p, hp⟩ : ∃ p, p = V.getD k 0 := ⟨_, rfl⟩
              obtain ⟨q, hq⟩ : ∃ q, q = V.getD (10 + k) 0 := ⟨_, rfl⟩
              rw [← hp] at c1 b1 hst
              rw [← hq] at c2 b2 hst
              replace hp := Lib.hid hp
              replace hq := Lib.hid hq
              replace hst := Lib.hid hst
              replace hZ := Lib.hid hZ
              replace hW := Lib.hid hW
              replace hO := Lib.hid hO
              have hk0 : (0 : Int) ≤ (k : Int) := by omega
              have hk9 : (k : Int) < 10 := by omega
              have hk1 : (0 : Int) ≤ 10 + (k : Int) := by omega
              have hk19 : 10 + (k : Int) < 20 := by omega
              have w1 := wrap_i64 (608 * q) (by omega)
              have w2 := wrap_i64 (p + 608 * q) (by omega)
              go_upto_region 19 with fail
              go_region
              go_wp2
              have hto := (touch_el1 (i := k) (v := .int .i64 (p + 608 * q)) (Touch.refl (fun j => j = w5.heap.size) wr)).drew
              refine ⟨⟨k + 1, by omega, by simp, hto.heap hZ.out (by omega), hto.heap hW.out (by omega), ?_, ht4.trans hto fun i hi q => by omega⟩, by simp [intOf]; omega⟩
              rw [drew_heap, num_set hO.out k (p + 608 * q), hst.out]
            · obtain rfl : k = 10 := by omega
              rw [outK_all] at hO
              have hmid := outL_mid hwo.out.2.2
              have h0 := outL_pos hwo.out.2.2
              have hmod := outL_val hwo.out.1
              rw [hwo.out.2.1] at hmod
              have hms : nv (outL V) % PP = s := by rw [hmod, es.out]; rfl
              have lO := outL_len V
              obtain ⟨O, hOO⟩ : ∃ O, O = outL V := ⟨_, rfl⟩
              rw [← hOO] at hO hmid h0 hms lO
              clear hmod
              replace hOO := Lib.hid hOO
              obtain ⟨m0, m1, m2, m3, m4, m5, m6, m7, m8, m9, rfl⟩ := ten lO
              obtain ⟨c0, c1, c2, c3, c4, c5, c6, c7, c8, c9⟩ := num_cells hO
              have hSm := Lib.hid (fun w => small_lit w m0 m1 m2 m3 m4 m5 m6 m7 m8 m9 s hmid h0 hms)
              replace hO := Lib.hid hO
              replace hZ := Lib.hid hZ
              replace hW := Lib.hid hW
              clear hmid h0 hms lO
              go_wp2_with (go_at_call 83; refine (hSm.out _).mono ?_; rintro r w2 ⟨⟨z0, z1, z2, z3, z4, z5, z6, z7, z8, z9, rfl, hz⟩, t2⟩; replace hz := Lib.hid hz; have hZ2 := touch_heap0 t2 hZ.out; obtain ⟨d0, d1, d2, d3, d4, d5, d6, d7, d8, d9⟩ := num_cells (show w2.heap[w.heap.size + 1 + 1]? = some (numC [0, 0, 0, 0, 0, 0, 0, 0, 0, 0]) from hZ2); have g0 := frz_blk hZ2 0; have g1 := frz_blk hZ2 1; have g2 := frz_blk hZ2 2; have g3 := frz_blk hZ2 3; have g4 := frz_blk hZ2 4; have g5 := frz_blk hZ2 5; have g6 := frz_blk hZ2 6; have g7 := frz_blk hZ2 7; have g8 := frz_blk hZ2 8; have g9 := frz_blk hZ2 9; replace hZ2 := Lib.hid hZ2)
              exact bodyPost_ret (v := numV [z0, z1, z2, z3, z4, z5, z6, z7, z8, z9]) (ret_num rfl rfl rfl (set10 rfl hZ2.out)) rfl ⟨by rw [hz.out]; rfl, (ht4.trans' t2).trans touch10 fun i hi q => by omega⟩

end Go.Proofs.Ytfnmnmjpcamkiaa
