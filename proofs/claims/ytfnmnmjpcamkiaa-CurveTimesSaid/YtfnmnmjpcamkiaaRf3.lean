/-
  Layer 1, the reference: Small, walked.
-/
import Derived.Test.YtfnmnmjpcamkiaaRf2
namespace Go.Proofs.Ytfnmnmjpcamkiaa
open Go.RowKit
set_option linter.unusedVariables false
set_option linter.unusedSimpArgs false

def Mid (l : List Int) : Prop := ∀ j, -1099511627776 ≤ l.getD j 0 ∧ l.getD j 0 ≤ 1099511627776
theorem Mid.big {l : List Int} (h : Mid l) : Big l := fun j => by have := h j; omega

theorem nv_lit (x0 x1 x2 x3 x4 x5 x6 x7 x8 x9 : Int) : nv [x0, x1, x2, x3, x4, x5, x6, x7, x8, x9] = x0 + x1 * 67108864 + x2 * 4503599627370496 + x3 * 302231454903657293676544 + x4 * 20282409603651670423947251286016 + x5 * 1361129467683753853853498429727072845824 + x6 * 91343852333181432387730302044767688728495783936 + x7 * 6129982163463555433433388108601236734474956488734408704 + x8 * 411376139330301510538742295639337626245683966408394965837152256 + x9 * 27606985387162255149739023449108101809804435888681546220650096895197184 := by
  simp only [nv]
  omega

/-- How far three rounds bring a number. -/
def RndB (k : Nat) (v : Int) : Prop := 0 ≤ v ∧ (k = 0 → v < 60708402882054033466233184588234965832575213720379360039119137804340758912662765568) ∧ (k = 1 → v < 57896044618658097711785492504343953926634992332820282019728792003956564819968 + 60000000000) ∧ (2 ≤ k → v < 57896044618658097711785492504343953926634992332820282019728792003956564819968)

theorem rndB_step {k : Nat} {v : Int} (h : RndB k v) : RndB (k + 1) (v - v / 57896044618658097711785492504343953926634992332820282019728792003956564819968 * PP) ∧ 0 ≤ v / 57896044618658097711785492504343953926634992332820282019728792003956564819968 ∧ v / 57896044618658097711785492504343953926634992332820282019728792003956564819968 ≤ 1100000000 := by
  obtain ⟨h0, h1, h2, h3⟩ := h
  unfold RndB PP
  have hk : k = 0 ∨ k = 1 ∨ 2 ≤ k := by omega
  rcases hk with hk | hk | hk
  · have := h1 hk; refine ⟨⟨by omega, fun q => by omega, fun q => by omega, fun q => by omega⟩, by omega, by omega⟩
  · have := h2 hk; refine ⟨⟨by omega, fun q => by omega, fun q => by omega, fun q => by omega⟩, by omega, by omega⟩
  · have := h3 hk; refine ⟨⟨by omega, fun q => by omega, fun q => by omega, fun q => by omega⟩, by omega, by omega⟩

/-- One round's digits. -/
theorem rnd_digits {l : List Int} {y0 y1 y2 y3 y4 y5 y6 y7 y8 y9 : Int} {k : Nat} (he : EvenOf l [y0, y1, y2, y3, y4, y5, y6, y7, y8, y9]) (hb : RndB k (nv l)) :
    0 ≤ y9 ∧ y9 ≤ 2400000000000000 ∧ y9 / 2097152 = nv l / 57896044618658097711785492504343953926634992332820282019728792003956564819968 ∧ 0 ≤ y0 ∧ y0 < 67108864 ∧
    nv [y0 + 19 * (y9 / 2097152), y1, y2, y3, y4, y5, y6, y7, y8, y9 - y9 / 2097152 * 2097152] = nv l - nv l / 57896044618658097711785492504343953926634992332820282019728792003956564819968 * PP ∧
    Mid [y0 + 19 * (y9 / 2097152), y1, y2, y3, y4, y5, y6, y7, y8, y9 - y9 / 2097152 * 2097152] := by
  obtain ⟨h1, h2, h3⟩ := he
  obtain ⟨_, r1, r2⟩ := rndB_step hb
  have r0 := hb.1
  have g9 := even_last h1 h3
  rw [h2] at g9
  have e9 : y9 = nv l / 27606985387162255149739023449108101809804435888681546220650096895197184 := g9.symm
  have d0 : 0 ≤ y0 ∧ y0 < 67108864 := h3 0 (by omega)
  have d1 : 0 ≤ y1 ∧ y1 < 67108864 := h3 1 (by omega)
  have d2 : 0 ≤ y2 ∧ y2 < 67108864 := h3 2 (by omega)
  have d3 : 0 ≤ y3 ∧ y3 < 67108864 := h3 3 (by omega)
  have d4 : 0 ≤ y4 ∧ y4 < 67108864 := h3 4 (by omega)
  have d5 : 0 ≤ y5 ∧ y5 < 67108864 := h3 5 (by omega)
  have d6 : 0 ≤ y6 ∧ y6 < 67108864 := h3 6 (by omega)
  have d7 : 0 ≤ y7 ∧ y7 < 67108864 := h3 7 (by omega)
  have d8 : 0 ≤ y8 ∧ y8 < 67108864 := h3 8 (by omega)
  have ec : y9 / 2097152 = nv l / 57896044618658097711785492504343953926634992332820282019728792003956564819968 := by
    rw [e9]; omega
  rw [nv_lit] at h2
  refine ⟨by omega, by omega, ec, d0.1, d0.2, ?_, ?_⟩
  · rw [← ec, nv_lit]
    unfold PP
    omega
  · intro j
    match j with
    | 0 => simp only [List.getD_cons_zero]; omega
    | 1 => simp only [List.getD_cons_succ, List.getD_cons_zero]; omega
    | 2 => simp only [List.getD_cons_succ, List.getD_cons_zero]; omega
    | 3 => simp only [List.getD_cons_succ, List.getD_cons_zero]; omega
    | 4 => simp only [List.getD_cons_succ, List.getD_cons_zero]; omega
    | 5 => simp only [List.getD_cons_succ, List.getD_cons_zero]; omega
    | 6 => simp only [List.getD_cons_succ, List.getD_cons_zero]; omega
    | 7 => simp only [List.getD_cons_succ, List.getD_cons_zero]; omega
    | 8 => simp only [List.getD_cons_succ, List.getD_cons_zero]; omega
    | 9 => simp only [List.getD_cons_succ, List.getD_cons_zero]; omega
    | _ + 10 => simp

theorem rndB_zero {l : List Int} (hl : l.length = 10) (hm : Mid l) (h0 : 0 ≤ nv l) : RndB 0 (nv l) := by
  obtain ⟨x0, x1, x2, x3, x4, x5, x6, x7, x8, x9, rfl⟩ := ten hl
  have d0 : x0 ≤ 1099511627776 := (hm 0).2
  have d1 : x1 ≤ 1099511627776 := (hm 1).2
  have d2 : x2 ≤ 1099511627776 := (hm 2).2
  have d3 : x3 ≤ 1099511627776 := (hm 3).2
  have d4 : x4 ≤ 1099511627776 := (hm 4).2
  have d5 : x5 ≤ 1099511627776 := (hm 5).2
  have d6 : x6 ≤ 1099511627776 := (hm 6).2
  have d7 : x7 ≤ 1099511627776 := (hm 7).2
  have d8 : x8 ≤ 1099511627776 := (hm 8).2
  have d9 : x9 ≤ 1099511627776 := (hm 9).2
  refine ⟨h0, fun _ => ?_, fun q => by omega, fun q => by omega⟩
  rw [nv_lit]
  omega

theorem even_ten (w : World) (x0 x1 x2 x3 x4 x5 x6 x7 x8 x9 : Int) (hb : Big [x0, x1, x2, x3, x4, x5, x6, x7, x8, x9]) :
    Calls Try.prog 90 #[.agg #[.int .i64 x0, .int .i64 x1, .int .i64 x2, .int .i64 x3, .int .i64 x4, .int .i64 x5, .int .i64 x6, .int .i64 x7, .int .i64 x8, .int .i64 x9]] w fun r w' =>
      (∃ y0 y1 y2 y3 y4 y5 y6 y7 y8 y9 : Int, r = .returned (.agg #[.int .i64 y0, .int .i64 y1, .int .i64 y2, .int .i64 y3, .int .i64 y4, .int .i64 y5, .int .i64 y6, .int .i64 y7, .int .i64 y8, .int .i64 y9]) ∧ EvenOf [x0, x1, x2, x3, x4, x5, x6, x7, x8, x9] [y0, y1, y2, y3, y4, y5, y6, y7, y8, y9]) ∧ Touch Nothing w w' :=
  (even_any w _ rfl hb).mono fun r w' ⟨⟨a', hr, he⟩, ht⟩ => by
    obtain ⟨y0, y1, y2, y3, y4, y5, y6, y7, y8, y9, rfl⟩ := ten he.1
    exact ⟨⟨y0, y1, y2, y3, y4, y5, y6, y7, y8, y9, hr, he⟩, ht⟩

theorem P_lit (w : World) : Calls Try.prog 61 #[] w fun r w' => r = .returned (.agg #[.int .i64 67108845, .int .i64 67108863, .int .i64 67108863, .int .i64 67108863, .int .i64 67108863, .int .i64 67108863, .int .i64 67108863, .int .i64 67108863, .int .i64 67108863, .int .i64 2097151]) ∧ Touch Nothing w w' := P_any w

theorem PN_low : Low9 PN := fun j hj => by
  have : ∀ j, j < 9 → 0 ≤ PN.getD j 0 ∧ PN.getD j 0 < 67108864 := by decide
  exact this j hj

theorem less_lit (w : World) (x0 x1 x2 x3 x4 x5 x6 x7 x8 x9 : Int) (b : Bool) (hl : Low9 [x0, x1, x2, x3, x4, x5, x6, x7, x8, x9]) (hb : b = decide (nv [x0, x1, x2, x3, x4, x5, x6, x7, x8, x9] < PP)) :
    Calls Try.prog 59 #[.agg #[.int .i64 x0, .int .i64 x1, .int .i64 x2, .int .i64 x3, .int .i64 x4, .int .i64 x5, .int .i64 x6, .int .i64 x7, .int .i64 x8, .int .i64 x9],
      .agg #[.int .i64 67108845, .int .i64 67108863, .int .i64 67108863, .int .i64 67108863, .int .i64 67108863, .int .i64 67108863, .int .i64 67108863, .int .i64 67108863, .int .i64 67108863, .int .i64 2097151]] w fun r w' => r = .returned (.bool b) ∧ Touch Nothing w w' := by
  subst hb
  rw [← PN_val]
  exact less_any w [x0, x1, x2, x3, x4, x5, x6, x7, x8, x9] PN rfl rfl hl PN_low

/-- p's digits are taken away as far as k. -/
structure SubInv (X m : List Int) (k : Nat) : Prop where
  len : m.length = 10
  val : nv m = nv X - nv (PN.take k)
  high : ∀ j, k ≤ j → m.getD j 0 = X.getD j 0
  low : ∀ j, j < k → -67108864 ≤ m.getD j 0 ∧ m.getD j 0 ≤ 67108864

theorem PN_get (k : Nat) (h : k < 10) : 0 ≤ PN.getD k 0 ∧ PN.getD k 0 < 67108864 := by
  have : ∀ k, k < 10 → 0 ≤ PN.getD k 0 ∧ PN.getD k 0 < 67108864 := by decide
  exact this k h

theorem subInv_step {X m : List Int} {k : Nat} (h : SubInv X m k) (hX : ∀ j, 0 ≤ X.getD j 0 ∧ X.getD j 0 ≤ 67108864) (hk : k < 10) : SubInv X (m.set k (m.getD k 0 - PN.getD k 0)) (k + 1) := by
  have hl := h.len
  have hp := PN_get k hk
  have hx := hX k
  rw [← h.high k (Nat.le_refl _)] at hx
  refine ⟨by simp [hl], ?_, fun j hj => ?_, fun j hj => ?_⟩
  · rw [nv_set _ _ _ (by omega), h.val]
    have e : PN.take (k + 1) = PN.take k ++ [PN.getD k 0] := by
      rw [List.take_succ_eq_append_getElem (show k < PN.length from hk)]
      simp [List.getD_eq_getElem?_getD, List.getElem?_eq_getElem (show k < PN.length from hk)]
    rw [e, nv_append]
    have e2 : (PN.take k).length = k := by rw [List.length_take]; show min k 10 = k; omega
    rw [e2]
    have e3 : nv [PN.getD k 0] = PN.getD k 0 := by simp [nv]
    rw [e3, show m.getD k 0 - PN.getD k 0 - m.getD k 0 = -PN.getD k 0 by omega, Int.mul_neg]
    omega
  · rw [getD_set_other _ _ _ _ (by omega)]
    exact h.high j (by omega)
  · by_cases e : j = k
    · subst e
      rw [getD_set_same _ _ _ (by omega)]
      omega
    · rw [getD_set_other _ _ _ _ (by omega)]
      exact h.low j (by omega)

theorem subInv_big {X m : List Int} (h : SubInv X m 10) : Big m := fun j => by
  have hl := h.len
  by_cases hj : j < 10
  · have := h.low j hj; omega
  · rw [List.getD_eq_getElem?_getD, List.getElem?_eq_none (by omega)]
    simp

/-- The digits that lie in a block. -/
def numAt (w : World) (g : Nat) : List Int := match w.heap[g]? with
  | some (.cells cs _ _) => cs.toList.map intOf
  | _ => []

theorem numAt_of {w : World} {g : Nat} {l : List Int} (h : w.heap[g]? = some (numC l)) : numAt w g = l := by
  unfold numAt
  rw [h]
  simp [numC, numA, intOf, Function.comp_def]

set_option maxRecDepth 100000 in
set_option maxHeartbeats 12800000 in
theorem Small_any (w : World) (a : List Int) (ha : a.length = 10) (hm : Mid a) (h0 : 0 ≤ nv a) :
    Calls Try.prog 83 #[numV a] w fun r w' => r = .returned (numV (canL (nv a % PP) 10)) ∧ Touch Nothing w w' := by
  have hA0 : ((w.alloc (numC a)).alloc (numC zeroN)).heap[w.heap.size]? = some (numC a) := by
    rw [Below.heap_alloc _ _ _ (by simp)]; exact heap_alloc_new _ _
  have hZ0 : ((w.alloc (numC a)).alloc (numC zeroN)).heap[w.heap.size + 1]? = some (numC zeroN) := by
    have := heap_alloc_new (w.alloc (numC a)) (numC zeroN)
    simpa using this
  have hI0 := Lib.hid (rndB_zero ha hm h0)
  replace hA0 := Lib.hid hA0
  replace hZ0 := Lib.hid hZ0
  replace ha := Lib.hid ha
  replace hm := Lib.hid hm
  replace h0 := Lib.hid h0
  obtain ⟨N, hN⟩ : ∃ N, N = nv a % PP := ⟨_, rfl⟩
  rw [← hN]
  replace hN := Lib.hid hN
  unfold numV
  go_enter Try.func83, Try.ntmps83
  go_wp2
  go_loopw [3] (fun iv wr => ∃ k : Nat, ∃ l : List Int, k ≤ 3 ∧ iv = .int .i64 (k : Int) ∧ Hid (l.length = 10 ∧ Mid l ∧ RndB k (nv l) ∧ nv l % PP = N) ∧ wr.heap[w.heap.size]? = some (numC l) ∧ wr.heap[w.heap.size + 1]? = some (numC zeroN) ∧ Touch Nothing w wr) (fun iv _ => 3 - (intOf iv).toNat)
  case atStart => exact ⟨0, a, by omega, rfl, Lib.hid ⟨ha.out, hm.out, hI0.out, hN.out.symm⟩, hA0.out, hZ0.out, ((Touch.refl _ _).alloc _).alloc _⟩
  case round =>
    obtain ⟨k, l, hk, rfl, hI, hA, hZ, ht⟩ := hrel
    obtain ⟨x0, x1, x2, x3, x4, x5, x6, x7, x8, x9, rfl⟩ := ten hI.out.1
    have hE := Lib.hid (fun w => even_ten w x0 x1 x2 x3 x4 x5 x6 x7 x8 x9 hI.out.2.1.big)
    obtain ⟨c0, c1, c2, c3, c4, c5, c6, c7, c8, c9⟩ := num_cells hA
    by_cases hlt : k < 3
    · replace hA := Lib.hid hA
      replace hZ := Lib.hid hZ
      have hk0 : (0 : Int) ≤ (k : Int) := by omega
      go_upto_region 4 with fail
      go_cut [12] (fun v wx => ∃ y0 y1 y2 y3 y4 y5 y6 y7 y8 y9 : Int, Hid (EvenOf [x0, x1, x2, x3, x4, x5, x6, x7, x8, x9] [y0, y1, y2, y3, y4, y5, y6, y7, y8, y9]) ∧ wx.heap[w.heap.size]? = some (numC [y0, y1, y2, y3, y4, y5, y6, y7, y8, y9]) ∧ Touch (fun j => j = w.heap.size) wr wx)
      case first =>
        go_wp2_with (go_at_call 90; refine (hE.out _).mono ?_; rintro r w2 ⟨⟨y0, y1, y2, y3, y4, y5, y6, y7, y8, y9, rfl, hev⟩, ht2⟩; replace hev := Lib.hid hev; have hA2 := touch_heap0 ht2 hA.out; obtain ⟨d0, d1, d2, d3, d4, d5, d6, d7, d8, d9⟩ := num_cells hA2; have g0 := frz_blk hA2 0; have g1 := frz_blk hA2 1; have g2 := frz_blk hA2 2; have g3 := frz_blk hA2 3; have g4 := frz_blk hA2 4; have g5 := frz_blk hA2 5; have g6 := frz_blk hA2 6; have g7 := frz_blk hA2 7; have g8 := frz_blk hA2 8; have g9 := frz_blk hA2 9; replace hA2 := Lib.hid hA2)
        go_meet
        exact ⟨_, _, _, _, _, _, _, _, _, _, hev, set10 rfl hA2.out, Touch.trans (F := fun j => j = w.heap.size) (ht2.mono fun _ _ q => q.elim) touch10 fun i hi q => q⟩
      case rest =>
        obtain ⟨y0, y1, y2, y3, y4, y5, y6, y7, y8, y9, hev, hA2, ht2⟩ := hcut
        obtain ⟨n0, n1, ec, m0, m1, hnv, hmid⟩ := rnd_digits hev.out hI.out.2.2.1
        obtain ⟨q1, q2, q3⟩ := rndB_step hI.out.2.2.1
        rw [← ec] at hnv q1 q2 q3
        have hmod : nv [y0 + 19 * (y9 / 2097152), y1, y2, y3, y4, y5, y6, y7, y8, y9 - y9 / 2097152 * 2097152] % PP = N := by
          rw [hnv, Int.sub_mul_emod_self_right]; exact hI.out.2.2.2
        have hIn := Lib.hid (show [y0 + 19 * (y9 / 2097152), y1, y2, y3, y4, y5, y6, y7, y8, y9 - y9 / 2097152 * 2097152].length = 10 ∧ Mid [y0 + 19 * (y9 / 2097152), y1, y2, y3, y4, y5, y6, y7, y8, y9 - y9 / 2097152 * 2097152] ∧ RndB (k + 1) (nv [y0 + 19 * (y9 / 2097152), y1, y2, y3, y4, y5, y6, y7, y8, y9 - y9 / 2097152 * 2097152]) ∧ nv [y0 + 19 * (y9 / 2097152), y1, y2, y3, y4, y5, y6, y7, y8, y9 - y9 / 2097152 * 2097152] % PP = N from ⟨rfl, hmid, by rw [hnv]; exact q1, hmod⟩)
        clear hnv hmid hmod q1 ec
        obtain ⟨d0, d1, d2, d3, d4, d5, d6, d7, d8, d9⟩ := num_cells hA2
        have g0 := frz_blk hA2 0
        have g9 := frz_blk hA2 9
        replace hA2 := Lib.hid hA2
        have w1 := wrap_i64 (y9 / 2097152 * 2097152) (by omega)
        have w2 := wrap_i64 (y9 - y9 / 2097152 * 2097152) (by omega)
        have w3 := wrap_i64 (19 * (y9 / 2097152)) (by omega)
        have w4 := wrap_i64 (y0 + 19 * (y9 / 2097152)) (by omega)
        go_wp2
        have hto := touch_el1 (i := 0) (v := .int .i64 (y0 + 19 * (y9 / 2097152))) (touch_el1 (i := 9) (v := .int .i64 (y9 - y9 / 2097152 * 2097152)) (Touch.refl (fun j => j = w.heap.size) wc))
        have hto2 := ht2.trans hto fun i hi q => q
        exact ⟨⟨k + 1, _, by omega, by simp, hIn, nset0 (nset9 hA2.out), hto2.heap hZ.out (by omega), ht.trans hto2 fun i hi q => by omega⟩, by simp [intOf]; omega⟩
    · obtain rfl : k = 3 := by omega
      have hb3 := hI.out.2.2.1.2.2.2 (by omega)
      have hb0 := hI.out.2.2.1.1
      have hbv := Lib.hid (And.intro hb0 (And.intro hb3 hI.out.2.2.2))
      replace hA := Lib.hid hA
      replace hZ := Lib.hid hZ
      clear hb3 hb0
      go_upto_region 8 with fail
      go_cut [29] (fun v wx => ∃ y0 y1 y2 y3 y4 y5 y6 y7 y8 y9 : Int, Hid (EvenOf [x0, x1, x2, x3, x4, x5, x6, x7, x8, x9] [y0, y1, y2, y3, y4, y5, y6, y7, y8, y9]) ∧ wx.heap[w.heap.size]? = some (numC [y0, y1, y2, y3, y4, y5, y6, y7, y8, y9]) ∧ Touch (fun j => j = w.heap.size) wr wx)
      case first =>
        go_wp2_with (go_at_call 90; refine (hE.out _).mono ?_; rintro r w2 ⟨⟨y0, y1, y2, y3, y4, y5, y6, y7, y8, y9, rfl, hev⟩, ht2⟩; replace hev := Lib.hid hev; have hA2 := touch_heap0 ht2 hA.out; obtain ⟨d0, d1, d2, d3, d4, d5, d6, d7, d8, d9⟩ := num_cells hA2; have g0 := frz_blk hA2 0; have g1 := frz_blk hA2 1; have g2 := frz_blk hA2 2; have g3 := frz_blk hA2 3; have g4 := frz_blk hA2 4; have g5 := frz_blk hA2 5; have g6 := frz_blk hA2 6; have g7 := frz_blk hA2 7; have g8 := frz_blk hA2 8; have g9 := frz_blk hA2 9; replace hA2 := Lib.hid hA2)
        go_meet
        exact ⟨_, _, _, _, _, _, _, _, _, _, hev, set10 rfl hA2.out, Touch.trans (F := fun j => j = w.heap.size) (ht2.mono fun _ _ q => q.elim) touch10 fun i hi q => q⟩
      case rest =>
        obtain ⟨y0, y1, y2, y3, y4, y5, y6, y7, y8, y9, hev, hA2, ht2⟩ := hcut
        have hZ2 := ht2.heap hZ.out (show ¬ w.heap.size + 1 = w.heap.size by omega)
        have ht3 : Touch Nothing w wc := ht.trans ht2 fun i hi q => by omega
        clear c0 c1 c2 c3 c4 c5 c6 c7 c8 c9
        go_wp2
        go_loopw [] (fun wr2 => ∃ l : List Int, Hid (l.length = 10 ∧ Low9 l ∧ 0 ≤ nv l ∧ nv l < 57896044618658097711785492504343953926634992332820282019728792003956564819968 ∧ nv l % PP = N) ∧ wr2.heap[w.heap.size]? = some (numC l) ∧ wr2.heap[w.heap.size + 1]? = some (numC zeroN) ∧ Touch Nothing w wr2) (fun wr2 => (nv (numAt wr2 w.heap.size)).toNat)
        case atStart => exact ⟨_, Lib.hid ⟨rfl, hev.out.2.2, by rw [hev.out.2.1]; exact hbv.out.1, by rw [hev.out.2.1]; exact hbv.out.2.1, by rw [hev.out.2.1]; exact hbv.out.2.2⟩, hA2, hZ2, ht3⟩
        case round =>
          clear hA2 hZ2 ht3 hev hA hZ hbv hI hE
          obtain ⟨l, hI, hA, hZ, ht4⟩ := hrel
          obtain ⟨x0, x1, x2, x3, x4, x5, x6, x7, x8, x9, rfl⟩ := ten hI.out.1
          have hnum := Lib.hid (numAt_of hA)
          obtain ⟨c0, c1, c2, c3, c4, c5, c6, c7, c8, c9⟩ := num_cells hA
          replace hA := Lib.hid hA
          replace hZ := Lib.hid hZ
          obtain ⟨b, hb⟩ : ∃ b, b = decide (nv [x0, x1, x2, x3, x4, x5, x6, x7, x8, x9] < PP) := ⟨_, rfl⟩
          have hL := Lib.hid (fun w => less_lit w x0 x1 x2 x3 x4 x5 x6 x7 x8 x9 b hI.out.2.1 hb)
          replace hb := Lib.hid hb
          go_upto_region 9 with fail
          go_cut [33] (fun v wx => v = .bool (!b) ∧ Touch Nothing wr wx)
          case first =>
            go_region_with (first | (go_at_call 61; refine (P_lit _).mono ?_; rintro r w2 ⟨rfl, t2⟩; have hA2 := touch_heap0 t2 hA.out; obtain ⟨c0, c1, c2, c3, c4, c5, c6, c7, c8, c9⟩ := num_cells hA2; replace hA2 := Lib.hid hA2) | (go_at_call 59; refine (hL.out _).mono ?_; rintro r w3 ⟨rfl, t3⟩))
            all_goals (go_wp2_with fail; go_meet; exact ⟨rfl, ((Touch.refl Nothing _).drew.trans' t2).trans' t3⟩)
          case rest =>
            obtain ⟨rfl, ht5⟩ := hcut
            have ht6 : Touch Nothing w wc := ht4.trans' ht5
            replace hA := Lib.hid (touch_heap0 ht5 hA.out)
            replace hZ := Lib.hid (touch_heap0 ht5 hZ.out)
            clear c0 c1 c2 c3 c4 c5 c6 c7 c8 c9 ht4 ht5
            obtain ⟨c0, c1, c2, c3, c4, c5, c6, c7, c8, c9⟩ := num_cells hA.out
            cases b with
            | true =>
              have hlt : nv [x0, x1, x2, x3, x4, x5, x6, x7, x8, x9] < PP := by simpa using hb.out
              have hfin : [x0, x1, x2, x3, x4, x5, x6, x7, x8, x9] = canL N 10 := by
                rw [← hI.out.2.2.2.2, Int.emod_eq_of_lt hI.out.2.2.1 hlt]
                refine can_uniqL (l := [x0, x1, x2, x3, x4, x5, x6, x7, x8, x9]) fun j => ?_
                by_cases hj : j < 9
                · exact hI.out.2.1 j hj
                · by_cases hj9 : j = 9
                  · subst hj9
                    have := even_last (l := [x0, x1, x2, x3, x4, x5, x6, x7, x8, x9]) rfl hI.out.2.1
                    have h1 := hI.out.2.2.1
                    have h2 := hI.out.2.2.2.1
                    omega
                  · rw [List.getD_eq_getElem?_getD, List.getElem?_eq_none (by simp; omega)]
                    simp
              replace hfin := Lib.hid hfin
              clear hlt
              obtain ⟨d0, d1, d2, d3, d4, d5, d6, d7, d8, d9⟩ := num_cells (show wc.heap[w.heap.size + 1]? = some (numC [0, 0, 0, 0, 0, 0, 0, 0, 0, 0]) from hZ.out)
              have g0 := frz_blk hZ.out 0
              have g1 := frz_blk hZ.out 1
              have g2 := frz_blk hZ.out 2
              have g3 := frz_blk hZ.out 3
              have g4 := frz_blk hZ.out 4
              have g5 := frz_blk hZ.out 5
              have g6 := frz_blk hZ.out 6
              have g7 := frz_blk hZ.out 7
              have g8 := frz_blk hZ.out 8
              have g9 := frz_blk hZ.out 9
              go_wp2
              exact bodyPost_ret (v := numV [x0, x1, x2, x3, x4, x5, x6, x7, x8, x9]) (ret_num rfl rfl rfl (set10 rfl hZ.out)) rfl ⟨by rw [hfin.out]; rfl, ht6.trans touch10 fun i hi q => by omega⟩
            | false =>
              go_upto_region 11 with (go_at_call 61; refine (P_lit _).mono ?_; rintro r w2 ⟨rfl, t2⟩)
              have hge : PP ≤ nv [x0, x1, x2, x3, x4, x5, x6, x7, x8, x9] := by have := hb.out; simp at this; exact this
              have hX : ∀ j, 0 ≤ [x0, x1, x2, x3, x4, x5, x6, x7, x8, x9].getD j 0 ∧ [x0, x1, x2, x3, x4, x5, x6, x7, x8, x9].getD j 0 ≤ 67108864 := fun j => by
                by_cases hj : j < 9
                · have := hI.out.2.1 j hj; omega
                · by_cases hj9 : j = 9
                  · subst hj9
                    have := even_last (l := [x0, x1, x2, x3, x4, x5, x6, x7, x8, x9]) rfl hI.out.2.1
                    have h1 := hI.out.2.2.1
                    have h2 := hI.out.2.2.2.1
                    omega
                  · rw [List.getD_eq_getElem?_getD, List.getElem?_eq_none (by simp; omega)]
                    simp
              obtain ⟨X, eX⟩ : ∃ X, X = [x0, x1, x2, x3, x4, x5, x6, x7, x8, x9] := ⟨_, rfl⟩
              have hAX := touch_heap0 t2 hA.out
              have hZX := touch_heap0 t2 hZ.out
              replace hnum := hnum.out
              rw [← eX] at hX hge hI hAX hb hnum
              have hA3 : (w2.alloc (numC PN)).heap[w.heap.size]? = some (numC X) := touch_heap0 ((Touch.refl Nothing w2).alloc _) hAX
              have hZ3 : (w2.alloc (numC PN)).heap[w.heap.size + 1]? = some (numC zeroN) := touch_heap0 ((Touch.refl Nothing w2).alloc _) hZX
              have hP3 : (w2.alloc (numC PN)).heap[w2.heap.size]? = some (numC PN) := heap_alloc_new _ _
              have hsz1 := ht6.size
              have hsz2 := t2.size
              have hlA := lt_of_heap hA.out
              have hlZ := lt_of_heap hZ.out
              replace hA3 := Lib.hid hA3
              replace hZ3 := Lib.hid hZ3
              replace hP3 := Lib.hid hP3
              replace hX := Lib.hid hX
              replace hge := Lib.hid hge
              replace eX := Lib.hid eX
              replace hnum := Lib.hid hnum
              have hS0 := Lib.hid (show SubInv X X 0 from ⟨hI.out.1, by simp [nv], fun _ _ => rfl, fun j hj => by omega⟩)
              clear c0 c1 c2 c3 c4 c5 c6 c7 c8 c9 hAX hZX hA hZ hL
              go_wp2
              go_loopw [6] (fun iv wr2 => ∃ k : Nat, ∃ m : List Int, k ≤ 10 ∧ iv = .int .i64 (k : Int) ∧ Hid (SubInv X m k) ∧ wr2.heap[w.heap.size]? = some (numC m) ∧ wr2.heap[w.heap.size + 1]? = some (numC zeroN) ∧ wr2.heap[w2.heap.size]? = some (numC PN) ∧ Touch Nothing w wr2) (fun iv _ => 10 - (intOf iv).toNat)
              case atStart => exact ⟨0, X, by omega, rfl, hS0, hA3.out, hZ3.out, hP3.out, (ht6.trans' t2).alloc _⟩
              case round =>
                obtain ⟨k, m, hk, rfl, hS, hA, hZ, hP, ht7⟩ := hrel
                by_cases hlt : k < 10
                · have c1 := (cell_blk hA k).trans (numA_cell m k (by rw [hS.out.len]; exact hlt))
                  have c2 := (cell_blk hP k).trans (numA_cell PN k hlt)
                  have f1 := frz_blk hA k
                  have hpk := PN_get k hlt
                  have hxk := hX.out k
                  rw [← hS.out.high k (Nat.le_refl _)] at hxk
                  have hst := Lib.hid (subInv_step hS.out hX.out hlt)
                  obtain ⟨x, hx⟩ : ∃ x, x = m.getD k 0 := ⟨_, rfl⟩
                  obtain ⟨y, hy⟩ : ∃ y, y = PN.getD k 0 := ⟨_, rfl⟩
                  rw [← hx] at c1 hxk hst
                  rw [← hy] at c2 hpk hst
                  replace hx := Lib.hid hx
                  replace hy := Lib.hid hy
                  replace hA := Lib.hid hA
                  replace hZ := Lib.hid hZ
                  replace hP := Lib.hid hP
                  have hk0 : (0 : Int) ≤ (k : Int) := by omega
                  have hk9 : (k : Int) < 10 := by omega
                  have w1 := wrap_i64 (x - y) (by omega)
                  go_upto_region 14 with fail
                  go_region
                  go_wp2
                  have hto := (touch_el1 (i := k) (v := .int .i64 (x - y)) (Touch.refl (fun j => j = w.heap.size) wr)).drew
                  have e1 := heap_setCell_same hA.out k (.int .i64 (x - y))
                  rw [numA_set] at e1
                  exact ⟨⟨k + 1, _, by omega, by simp, hst, e1, hto.heap hZ.out (by omega), hto.heap hP.out (by omega), ht7.trans hto fun i hi q => by omega⟩, by simp [intOf]; omega⟩
                · obtain rfl : k = 10 := by omega
                  have hbig := subInv_big hS.out
                  have hval := hS.out.val
                  have e10 : nv (PN.take 10) = PP := PN_val
                  rw [e10] at hval
                  obtain ⟨m0, m1, m2, m3, m4, m5, m6, m7, m8, m9, rfl⟩ := ten hS.out.len
                  obtain ⟨c0, c1, c2, c3, c4, c5, c6, c7, c8, c9⟩ := num_cells hA
                  have hE := Lib.hid (fun w => even_ten w m0 m1 m2 m3 m4 m5 m6 m7 m8 m9 hbig)
                  replace hval := Lib.hid hval
                  replace hA := Lib.hid hA
                  replace hZ := Lib.hid hZ
                  clear hbig hP e10
                  go_wp2_with (go_at_call 90; refine (hE.out _).mono ?_; rintro r w4 ⟨⟨y0, y1, y2, y3, y4, y5, y6, y7, y8, y9, rfl, hev⟩, t4⟩; replace hev := Lib.hid hev; have hA2 := touch_heap0 t4 hA.out; obtain ⟨d0, d1, d2, d3, d4, d5, d6, d7, d8, d9⟩ := num_cells hA2; have g0 := frz_blk hA2 0; have g1 := frz_blk hA2 1; have g2 := frz_blk hA2 2; have g3 := frz_blk hA2 3; have g4 := frz_blk hA2 4; have g5 := frz_blk hA2 5; have g6 := frz_blk hA2 6; have g7 := frz_blk hA2 7; have g8 := frz_blk hA2 8; have g9 := frz_blk hA2 9; replace hA2 := Lib.hid hA2)
                  have hb10 := set10 (x0 := y0) (x1 := y1) (x2 := y2) (x3 := y3) (x4 := y4) (x5 := y5) (x6 := y6) (x7 := y7) (x8 := y8) (x9 := y9) rfl hA2.out
                  have ht10 := touch10 (w := w4) (g := w.heap.size) (v0 := .int .i64 y0) (v1 := .int .i64 y1) (v2 := .int .i64 y2) (v3 := .int .i64 y3) (v4 := .int .i64 y4) (v5 := .int .i64 y5) (v6 := .int .i64 y6) (v7 := .int .i64 y7) (v8 := .int .i64 y8) (v9 := .int .i64 y9)
                  have hnew : nv [y0, y1, y2, y3, y4, y5, y6, y7, y8, y9] = nv X - PP := by rw [hev.out.2.1, hval.out]
                  have hpos : (0 : Int) < PP := by decide
                  have i1 := hI.out.2.2.1
                  have i2 := hI.out.2.2.2.1
                  have i3 := hI.out.2.2.2.2
                  have hge := hge.out
                  refine ⟨?_, ?_⟩
                  · (repeat apply Exists.intro)
                    exact ⟨⟨[y0, y1, y2, y3, y4, y5, y6, y7, y8, y9], Lib.hid ⟨rfl, hev.out.2.2, by rw [hnew]; omega, by rw [hnew]; omega, by rw [hnew, ← i3, Int.sub_emod_right]⟩, hb10, ht10.heap (touch_heap0 t4 hZ.out) (by omega), (ht7.trans' t4).trans ht10 fun i hi q => by omega⟩, rfl⟩
                  · rw [numAt_of hb10, hnum.out, hnew]
                    omega

end Go.Proofs.Ytfnmnmjpcamkiaa
