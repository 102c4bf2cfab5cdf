/-
  Layer 1, the reference: less, even, walked.
-/
import Derived.Test.YtfnmnmjpcamkiaaRf1
namespace Go.Proofs.Ytfnmnmjpcamkiaa
open Go.RowKit
set_option linter.unusedVariables false
set_option linter.unusedSimpArgs false

/-- Digits but the last one are in bounds. -/
def Low9 (l : List Int) : Prop := ∀ j, j < 9 → 0 ≤ l.getD j 0 ∧ l.getD j 0 < 67108864

theorem drop_getD {l : List Int} {j : Nat} (h : j < l.length) : l.drop j = l.getD j 0 :: l.drop (j + 1) := by
  rw [List.drop_eq_getElem_cons h]
  simp [List.getD_eq_getElem?_getD, h]

theorem nv_split (l : List Int) (j : Nat) (h : j ≤ l.length) : nv l = nv (l.take j) + 67108864 ^ j * nv (l.drop j) := by
  have := nv_append (l.take j) (l.drop j)
  rw [List.take_append_drop, List.length_take, Nat.min_eq_left h] at this
  exact this

theorem less_one {a b : List Int} {j : Nat} (ha : a.length = 10) (hb : b.length = 10) (la : Low9 a) (lb : Low9 b) (hj : j < 10) (hd : a.drop (j + 1) = b.drop (j + 1)) (h : a.getD j 0 < b.getD j 0) : nv a < nv b := by
  rw [nv_split a j (by omega), nv_split b j (by omega), drop_getD (by omega : j < a.length), drop_getD (by omega : j < b.length), hd]
  have h1 := nv_dig (take_low (l := a) (k := j) fun i hi => la i (by omega))
  have h2 := nv_dig (take_low (l := b) (k := j) fun i hi => lb i (by omega))
  rw [List.length_take, Nat.min_eq_left (by omega)] at h1 h2
  simp only [nv]
  obtain ⟨t, ht⟩ : ∃ t, t = nv (b.drop (j + 1)) := ⟨_, rfl⟩
  obtain ⟨p, hp⟩ : ∃ p : Int, p = 67108864 ^ j := ⟨_, rfl⟩
  obtain ⟨d, hdd⟩ : ∃ d : Int, d = b.getD j 0 - a.getD j 0 - 1 := ⟨_, rfl⟩
  rw [← ht, ← hp]
  rw [← hp] at h1 h2
  obtain ⟨m, hm⟩ : ∃ m, m = a.getD j 0 + 67108864 * t := ⟨_, rfl⟩
  have e : b.getD j 0 + 67108864 * t = m + (1 + d) := by omega
  rw [e, ← hm, Int.mul_add p m, Int.mul_add p 1, Int.mul_one]
  have : 0 ≤ p * d := Int.mul_nonneg (by omega) (by omega)
  omega

theorem less_dec {a b : List Int} {j : Nat} (ha : a.length = 10) (hb : b.length = 10) (la : Low9 a) (lb : Low9 b) (hj : j < 10) (hd : a.drop (j + 1) = b.drop (j + 1)) (h : a.getD j 0 ≠ b.getD j 0) : decide (a.getD j 0 < b.getD j 0) = decide (nv a < nv b) := by
  by_cases q : a.getD j 0 < b.getD j 0
  · rw [decide_eq_true q, decide_eq_true (less_one ha hb la lb hj hd q)]
  · have := less_one hb ha lb la hj hd.symm (by omega)
    rw [decide_eq_false q, decide_eq_false (by omega)]

set_option maxRecDepth 100000 in
set_option maxHeartbeats 1600000 in
theorem less_any (w : World) (a b : List Int) (ha : a.length = 10) (hb : b.length = 10) (la : Low9 a) (lb : Low9 b) :
    Calls Try.prog 59 #[numV a, numV b] w fun r w' => r = .returned (.bool (decide (nv a < nv b))) ∧ Touch Nothing w w' := by
  have hA0 : ((w.alloc (numC a)).alloc (numC b)).heap[w.heap.size]? = some (numC a) := by
    rw [Below.heap_alloc _ _ _ (by simp)]; exact heap_alloc_new _ _
  have hB0 : ((w.alloc (numC a)).alloc (numC b)).heap[w.heap.size + 1]? = some (numC b) := by
    have := heap_alloc_new (w.alloc (numC a)) (numC b)
    simpa using this
  replace hA0 := Lib.hid hA0
  replace hB0 := Lib.hid hB0
  have hfin := Lib.hid (fun j => less_dec (j := j) ha hb la lb)
  obtain ⟨res, hres⟩ : ∃ res, res = decide (nv a < nv b) := ⟨_, rfl⟩
  rw [← hres] at hfin ⊢
  replace hres := Lib.hid hres
  replace ha := Lib.hid ha
  replace hb := Lib.hid hb
  clear la lb
  unfold numV
  go_enter Try.func59, Try.ntmps59
  go_wp2
  go_loopw [5] (fun iv wr => ∃ k : Nat, k ≤ 10 ∧ iv = .int .i64 ((k : Int) - 1) ∧ Hid (a.drop k = b.drop k) ∧ wr.heap[w.heap.size]? = some (numC a) ∧ wr.heap[w.heap.size + 1]? = some (numC b) ∧ Touch Nothing w wr) (fun iv _ => (intOf iv + 1).toNat)
  case atStart => exact ⟨10, by omega, rfl, Lib.hid (by rw [List.drop_of_length_le (by rw [ha.out]; omega), List.drop_of_length_le (by rw [hb.out]; omega)]), hA0.out, hB0.out, ((Touch.refl _ _).alloc _).alloc _⟩
  case round =>
    obtain ⟨k, hk, rfl, hd, hA, hB, ht⟩ := hrel
    cases k with
    | zero =>
      have e : a = b := by have := hd.out; rwa [List.drop_zero, List.drop_zero] at this
      have hf : res = false := by rw [hres.out, e]; simp
      replace e := Lib.hid e
      replace hA := Lib.hid hA
      replace hB := Lib.hid hB
      go_wp2
      go_ret
      exact ⟨by rw [hf]; rfl, ht⟩
    | succ j =>
      have hj : (((j + 1 : Nat) : Int) - 1) = (j : Int) := by omega
      rw [hj]
      clear hj
      have hja := (cell_blk hA j).trans (numA_cell a j (by rw [ha.out]; omega))
      have hjb := (cell_blk hB j).trans (numA_cell b j (by rw [hb.out]; omega))
      have hj0 : (0 : Int) ≤ (j : Int) := by omega
      have hj9 : (j : Int) < 10 := by omega
      have hdec := hfin.out j (by omega) hd.out
      have hdrop : a.getD j 0 = b.getD j 0 → a.drop j = b.drop j := fun q => by
        rw [drop_getD (l := a) (j := j) (by rw [ha.out]; omega), drop_getD (l := b) (j := j) (by rw [hb.out]; omega), q, hd.out]
      obtain ⟨x, hx⟩ : ∃ x, x = a.getD j 0 := ⟨_, rfl⟩
      obtain ⟨y, hy⟩ : ∃ y, y = b.getD j 0 := ⟨_, rfl⟩
      rw [← hx] at hja hdec hdrop
      rw [← hy] at hjb hdec hdrop
      replace hx := Lib.hid hx
      replace hy := Lib.hid hy
      replace hA := Lib.hid hA
      replace hB := Lib.hid hB
      by_cases hxy : x = y
      · have hdr := Lib.hid (hdrop hxy)
        subst hxy
        clear hdec hdrop
        go_upto_region 4 with fail
        go_quiet (fail)
        go_wp2
        exact ⟨⟨j, by omega, rfl, hdr, hA.out, hB.out, ht.drewN _⟩, by simp [intOf]⟩
      · have hdc := hdec hxy
        have hb2 : (x == y) = false := by simpa using hxy
        clear hdec hdrop
        replace hxy := Lib.hid hxy
        go_upto_region 4 with fail
        go_quiet (fail)
        go_wp2
        go_quiet (fail)
        go_wp2
        go_ret
        exact ⟨rfl, (ht.drewN _).drewN _⟩

theorem wrap_i64 (x : Int) (h : -9223372036854775808 ≤ x ∧ x < 9223372036854775808) : IntKind.i64.wrap x = x := by rw [IntKind.wrap_i64]; omega

set_option maxRecDepth 100000 in
set_option maxHeartbeats 3200000 in
theorem even_any (w : World) (a : List Int) (ha : a.length = 10) (hb : Big a) :
    Calls Try.prog 90 #[numV a] w fun r w' => (∃ a', r = .returned (numV a') ∧ EvenOf a a') ∧ Touch Nothing w w' := by
  have hA0 : ((w.alloc (numC a)).alloc (numC zeroN)).heap[w.heap.size]? = some (numC a) := by
    rw [Below.heap_alloc _ _ _ (by simp)]; exact heap_alloc_new _ _
  have hZ0 : ((w.alloc (numC a)).alloc (numC zeroN)).heap[w.heap.size + 1]? = some (numC zeroN) := by
    have := heap_alloc_new (w.alloc (numC a)) (numC zeroN)
    simpa using this
  have hI0 := Lib.hid (carInv_zero hb)
  replace hA0 := Lib.hid hA0
  replace hZ0 := Lib.hid hZ0
  replace ha := Lib.hid ha
  replace hb := Lib.hid hb
  unfold numV
  go_enter Try.func90, Try.ntmps90
  go_wp2
  go_loopw [3] (fun iv wr => ∃ k : Nat, ∃ l : List Int, k ≤ 9 ∧ iv = .int .i64 (k : Int) ∧ Hid (CarInv a l k) ∧ wr.heap[w.heap.size]? = some (numC l) ∧ wr.heap[w.heap.size + 1]? = some (numC zeroN) ∧ Touch Nothing w wr) (fun iv _ => 9 - (intOf iv).toNat)
  case atStart => exact ⟨0, a, by omega, rfl, hI0, hA0.out, hZ0.out, ((Touch.refl _ _).alloc _).alloc _⟩
  case round =>
    obtain ⟨k, l, hk, rfl, hI, hA, hZ, ht⟩ := hrel
    have hlen : l.length = 10 := by rw [hI.out.len, ha.out]
    by_cases hlt : k < 9
    · have c1 := (cell_blk hA k).trans (numA_cell l k (by omega))
      have c2 := (cell_blk hA (k + 1)).trans (numA_cell l (k + 1) (by omega))
      have f1 := frz_blk hA k
      have f2 := frz_blk hA (k + 1)
      have hst := Lib.hid (carInv_step hI.out hb.out (by rw [ha.out]; omega))
      have hcur := hI.out.cur
      have hnx := hb.out (k + 1)
      rw [← hI.out.high (k + 1) (by omega)] at hnx
      obtain ⟨x, hx⟩ : ∃ x, x = l.getD k 0 := ⟨_, rfl⟩
      obtain ⟨y, hy⟩ : ∃ y, y = l.getD (k + 1) 0 := ⟨_, rfl⟩
      rw [← hx] at c1 hcur hst
      rw [← hy] at c2 hnx hst
      replace hx := Lib.hid hx
      replace hy := Lib.hid hy
      replace hlen := Lib.hid hlen
      replace hA := Lib.hid hA
      replace hZ := Lib.hid hZ
      have hk0 : (0 : Int) ≤ (k : Int) := by omega
      have hk1 : (0 : Int) ≤ (k : Int) + 1 := by omega
      have hk9 : (k : Int) + 1 < 10 := by omega
      have w1 := wrap_i64 (x / 67108864 * 67108864) (by omega)
      have w2 := wrap_i64 (x - x / 67108864 * 67108864) (by omega)
      have w3 := wrap_i64 (y + x / 67108864) (by omega)
      go_wp2
      have hto := touch_el1 (i := k + 1) (v := .int .i64 (y + x / 67108864)) (touch_el1 (i := k) (v := .int .i64 (x - x / 67108864 * 67108864)) (Touch.refl (fun j => j = w.heap.size) wr))
      refine ⟨⟨k + 1, _, by omega, by simp, hst, ?_, hto.heap hZ.out (by omega), ht.trans hto fun i hi q => by omega⟩, by simp [intOf]; omega⟩
      have e1 := heap_setCell_same hA.out k (.int .i64 (x - x / 67108864 * 67108864))
      rw [numA_set] at e1
      have e2 := heap_setCell_same e1 (k + 1) (.int .i64 (y + x / 67108864))
      rw [numA_set] at e2
      rw [show x % 67108864 = x - x / 67108864 * 67108864 by omega]
      exact e2
    · obtain rfl : k = 9 := by omega
      have hev : EvenOf a l := ⟨hlen, hI.out.val, hI.out.low⟩
      obtain ⟨x0, x1, x2, x3, x4, x5, x6, x7, x8, x9, rfl⟩ := ten hlen
      obtain ⟨c0, c1, c2, c3, c4, c5, c6, c7, c8, c9⟩ := num_cells hA
      obtain ⟨d0, d1, d2, d3, d4, d5, d6, d7, d8, d9⟩ := num_cells (show wr.heap[w.heap.size + 1]? = some (numC [0, 0, 0, 0, 0, 0, 0, 0, 0, 0]) from hZ)
      have g0 := frz_blk hZ 0
      have g1 := frz_blk hZ 1
      have g2 := frz_blk hZ 2
      have g3 := frz_blk hZ 3
      have g4 := frz_blk hZ 4
      have g5 := frz_blk hZ 5
      have g6 := frz_blk hZ 6
      have g7 := frz_blk hZ 7
      have g8 := frz_blk hZ 8
      have g9 := frz_blk hZ 9
      replace hA := Lib.hid hA
      replace hZ := Lib.hid hZ
      replace hev := Lib.hid hev
      clear hI hlen
      go_wp2
      exact bodyPost_ret (v := numV [x0, x1, x2, x3, x4, x5, x6, x7, x8, x9]) (ret_num rfl rfl rfl (set10 rfl hZ.out)) rfl ⟨⟨_, rfl, hev.out⟩, ht.trans touch10 fun i hi q => by omega⟩

end Go.Proofs.Ytfnmnmjpcamkiaa
