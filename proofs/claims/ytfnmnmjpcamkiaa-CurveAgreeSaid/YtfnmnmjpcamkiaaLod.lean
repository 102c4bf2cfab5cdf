/-
  Layer 1: Load, walked.
-/
import Derived.Test.YtfnmnmjpcamkiaaTxt
import Derived.StillTailTactics
namespace Go.Proofs.Ytfnmnmjpcamkiaa
open Go.RowKit
set_option linter.unusedVariables false
set_option linter.unusedSimpArgs false

/-- Four words of a number. -/
def wordsC (n : Nat) : Array Value := #[.int .u64 ((n % 18446744073709551616 : Nat) : Int), .int .u64 ((n / 18446744073709551616 % 18446744073709551616 : Nat) : Int), .int .u64 ((n / 340282366920938463463374607431768211456 % 18446744073709551616 : Nat) : Int), .int .u64 ((n / 6277101735386680763835789423207666416102355444464034512896 % 18446744073709551616 : Nat) : Int)]

def wordN (n : Nat) : Nat → Nat
  | 0 => n % 18446744073709551616
  | 1 => n / 18446744073709551616 % 18446744073709551616
  | 2 => n / 340282366920938463463374607431768211456 % 18446744073709551616
  | _ => n / 6277101735386680763835789423207666416102355444464034512896 % 18446744073709551616

theorem wordsC_cell (n j : Nat) (h : j < 4) : (wordsC n)[j]? = some (.int .u64 ((wordN n j : Nat) : Int)) := by
  match j with
  | 0 => rfl
  | 1 => rfl
  | 2 => rfl
  | 3 => rfl
  | _ + 4 => omega

theorem word_step (n b k : Nat) (hk : k < 32) (hn : n < 256 ^ k) (hb : b < 256) :
    wordN n (k / 8) < 2 ^ (k % 8 * 8) ∧ b * 2 ^ (k % 8 * 8) < 18446744073709551616 ∧
    (wordsC n).setIfInBounds (k / 8) (.int .u64 ((wordN n (k / 8) + b * 2 ^ (k % 8 * 8) : Nat) : Int)) = wordsC (n + 256 ^ k * b) := by
  obtain ⟨y, hy⟩ : ∃ y, y = 2 ^ (k % 8 * 8) := ⟨_, rfl⟩
  obtain ⟨t, ht⟩ : ∃ t, t = b * y := ⟨_, rfl⟩
  have hy1 : y ≤ 72057594037927936 := by rw [hy]; exact Nat.pow_le_pow_right (n := 2) (by omega) (show k % 8 * 8 ≤ 56 by omega)
  have hy0 : 0 < y := by rw [hy]; exact Nat.two_pow_pos _
  have ht1 : t ≤ 255 * y := by rw [ht]; exact Nat.mul_le_mul_right _ (by omega)
  have hp : 256 ^ k = 2 ^ (64 * (k / 8)) * y := by
    rw [hy, ← Nat.pow_add, show (256 : Nat) = 2 ^ 8 from rfl, ← Nat.pow_mul]
    congr 1
    omega
  have hpb : 256 ^ k * b = 2 ^ (64 * (k / 8)) * t := by rw [hp, ht, Nat.mul_assoc, Nat.mul_comm y b]
  rw [hp] at hn
  rw [hpb, ← hy, ← ht]
  clear hp hpb hy ht
  have hj : k / 8 = 0 ∨ k / 8 = 1 ∨ k / 8 = 2 ∨ k / 8 = 3 := by omega
  rcases hj with e | e | e | e
  all_goals
    rw [e] at hn ⊢
    simp only [Nat.mul_zero, Nat.reduceMul, Nat.reducePow] at hn ⊢
    simp only [wordN]
    refine ⟨by omega, by omega, ?_⟩
    unfold wordsC
    simp only [List.setIfInBounds_toArray, List.set_cons_zero, List.set_cons_succ]
    congr 1
    simp only [List.cons.injEq, Value.int.injEq, true_and, and_true]
    omega

theorem take_snoc (s : ByteArray) (k : Nat) (h : k < s.size) : s.data.toList.take (k + 1) = s.data.toList.take k ++ [s[k]] := by
  rw [List.take_succ_eq_append_getElem (by simpa using h)]; rfl

/-- The number of the first k bytes. -/
def decT (s : ByteArray) (k : Nat) : Nat := decL (s.data.toList.take k)

theorem decT_succ (s : ByteArray) (k : Nat) (h : k < s.size) : decT s (k + 1) = decT s k + 256 ^ k * s[k].toNat := by
  unfold decT
  rw [take_snoc s k h, decL_append]
  have : (s.data.toList.take k).length = k := by
    rw [List.length_take, Array.length_toList]; show min k s.size = k; omega
  rw [this]
  simp [decL]

theorem decT_lt (s : ByteArray) (k : Nat) (h : k ≤ s.size) : decT s k < 256 ^ k := by
  have := decL_lt (s.data.toList.take k)
  have hl : (s.data.toList.take k).length = k := by
    rw [List.length_take, Array.length_toList]; show min k s.size = k; omega
  rwa [hl] at this

theorem limbs_of (n : Nat) (hn : n < 115792089237316195423570985008687907853269984665640564039457584007913129639936) (q0 q1 q2 q3 : Int) (h0 : q0 = ((wordN n 0 : Nat) : Int)) (h1 : q1 = ((wordN n 1 : Nat) : Int)) (h2 : q2 = ((wordN n 2 : Nat) : Int)) (h3 : q3 = ((wordN n 3 : Nat) : Int)) :
    canE ((n : Int) % 57896044618658097711785492504343953926634992332820282019728792003956564819968) = ⟨bits .and .u64 q0 2251799813685247, bits .and .u64 (bits .or .u64 (q0 / 2251799813685248) (IntKind.u64.wrap (q1 * 8192))) 2251799813685247,
      bits .and .u64 (bits .or .u64 (q1 / 274877906944) (IntKind.u64.wrap (q2 * 67108864))) 2251799813685247, bits .and .u64 (bits .or .u64 (q2 / 33554432) (IntKind.u64.wrap (q3 * 549755813888))) 2251799813685247, bits .and .u64 (q3 / 4096) 2251799813685247⟩ := by
  simp only [wordN] at h0 h1 h2 h3
  rw [IntKind.wrap_u64, IntKind.wrap_u64, IntKind.wrap_u64]
  have e1 := or_lo_int 13 (q0 / 2251799813685248) (q1 * 8192 % 18446744073709551616) (q1 % 2251799813685248).toNat (by omega) (by omega) (by omega) (by omega)
  have e2 := or_lo_int 26 (q1 / 274877906944) (q2 * 67108864 % 18446744073709551616) (q2 % 274877906944).toNat (by omega) (by omega) (by omega) (by omega)
  have e3 := or_lo_int 39 (q2 / 33554432) (q3 * 549755813888 % 18446744073709551616) (q3 % 33554432).toNat (by omega) (by omega) (by omega) (by omega)
  rw [e1, e2, e3, mask51 q0 (by omega), mask51 _ (by omega), mask51 _ (by omega), mask51 _ (by omega), mask51 _ (by omega)]
  unfold canE
  rw [El.mk.injEq]
  omega

set_option maxRecDepth 100000 in
set_option maxHeartbeats 1600000 in
theorem Load_any (w : World) (s : ByteArray) (hs : s.size = 32) :
    Calls Try.prog 58 #[.string s] w fun r w' => r = .returned (elV (canE (dec s % 57896044618658097711785492504343953926634992332820282019728792003956564819968))) ∧ Touch Nothing w w' := by
  have hs2 : s.size ≤ 32 := by omega
  have hs3 : 32 ≤ s.size := by omega
  obtain ⟨v, hv⟩ : ∃ v, v = canE (dec s % 57896044618658097711785492504343953926634992332820282019728792003956564819968) := ⟨_, rfl⟩
  rw [← hv]
  replace hv := Lib.hid hv
  replace hs := Lib.hid hs
  have h00 : decT s 0 = 0 := by simp [decT, decL]
  have hW0 : ((w.alloc (elC zE)).alloc (.cells (wordsC 0) 78)).heap[w.heap.size + 1]? = some (.cells (wordsC 0) 78) := by
    have := heap_alloc_new (w.alloc (elC zE)) (.cells (wordsC 0) 78)
    simpa using this
  have hE0 : ((w.alloc (elC zE)).alloc (.cells (wordsC 0) 78)).heap[w.heap.size]? = some (elC zE) := by
    rw [Below.heap_alloc _ _ _ (by simp)]; exact heap_alloc_new _ _
  replace hW0 := Lib.hid hW0
  replace h00 := Lib.hid h00
  replace hE0 := Lib.hid hE0
  go_enter Try.func58, Try.ntmps58
  go_wp2
  go_loopw [5] (fun iv wr => ∃ k : Nat, k ≤ 32 ∧ iv = .int .i64 (k : Int) ∧ wr.heap[w.heap.size]? = some (elC zE) ∧ wr.heap[w.heap.size + 1]? = some (.cells (wordsC (decT s k)) 78) ∧ Touch Nothing w wr) (fun iv _ => 32 - (intOf iv).toNat)
  case atStart => exact ⟨0, by omega, rfl, hE0.out, by rw [h00.out]; exact hW0.out, ((Touch.refl _ _).alloc _).alloc _⟩
  case round =>
    obtain ⟨k, hk, rfl, hE, hB, ht⟩ := hrel
    by_cases hlt : k < 32
    · have hks : k < s.size := by omega
      have hbl := s[k].toNat_lt
      obtain ⟨hs1, hs2b, hst⟩ := word_step (decT s k) s[k].toNat k hlt (decT_lt s k (by omega)) (by omega)
      have hc := (cell_blk hB (k / 8)).trans (wordsC_cell (decT s k) (k / 8) (by omega))
      have hfz := frz_blk hB (k / 8)
      rw [← decT_succ s k hks] at hst
      replace hst := Lib.hid hst
      obtain ⟨x, hx⟩ : ∃ x : Int, x = ((wordN (decT s k) (k / 8) : Nat) : Int) := ⟨_, rfl⟩
      rw [← hx] at hc
      replace hB := Lib.hid hB
      replace hE := Lib.hid hE
      replace hx := Lib.hid hx
      have hlk : (0 : Int) ≤ (k : Int) := by omega
      go_upto_region 5 with fail
      go_region
      go_wp2
      have hto := touch_el1 (i := k / 8) (v := .int .u64 (bits BinOp.or IntKind.u64 x (IntKind.u64.wrap (↑s[k].toNat * 2 ^ (k % 8 * 8))))) (Touch.refl (fun j => j = w.heap.size + 1) wr)
      have hval : bits BinOp.or IntKind.u64 x (IntKind.u64.wrap (↑s[k].toNat * 2 ^ (k % 8 * 8))) = ((wordN (decT s k) (k / 8) + s[k].toNat * 2 ^ (k % 8 * 8) : Nat) : Int) := by
        have hcast : ((s[k].toNat : Int) * 2 ^ (k % 8 * 8)) = ((s[k].toNat * 2 ^ (k % 8 * 8) : Nat) : Int) := by simp
        rw [hcast, u64_in _ (by omega), hx.out]
        refine or_lo _ _ _ hs1 hs2b ?_
        refine Nat.lt_trans hs1 ?_
        exact Nat.lt_of_le_of_lt (Nat.pow_le_pow_right (n := 2) (by omega) (show k % 8 * 8 ≤ 56 by omega)) (by decide)
      refine ⟨⟨k + 1, by omega, by simp, hto.drew.heap hE.out (by omega), ?_, ht.trans hto.drew fun i hi q => by omega⟩, by simp [intOf]; omega⟩
      have := heap_setCell_same hB.out (k / 8) (.int .u64 (bits BinOp.or IntKind.u64 x (IntKind.u64.wrap (↑s[k].toNat * 2 ^ (k % 8 * 8)))))
      rw [drew_heap, this, hval, hst.out]
    · obtain rfl : k = 32 := by omega
      have hc0 := (cell_blk hB 0).trans (wordsC_cell (decT s 32) 0 (by omega))
      have hc1 := (cell_blk hB 1).trans (wordsC_cell (decT s 32) 1 (by omega))
      have hc2 := (cell_blk hB 2).trans (wordsC_cell (decT s 32) 2 (by omega))
      have hc3 := (cell_blk hB 3).trans (wordsC_cell (decT s 32) 3 (by omega))
      obtain ⟨z0, z1, z2, z3, z4⟩ := el_cells hE
      have f0 := frz_blk hE 0
      have f1 := frz_blk hE 1
      have f2 := frz_blk hE 2
      have f3 := frz_blk hE 3
      have f4 := frz_blk hE 4
      obtain ⟨q0, hq0⟩ : ∃ q : Int, q = ((wordN (decT s 32) 0 : Nat) : Int) := ⟨_, rfl⟩
      obtain ⟨q1, hq1⟩ : ∃ q : Int, q = ((wordN (decT s 32) 1 : Nat) : Int) := ⟨_, rfl⟩
      obtain ⟨q2, hq2⟩ : ∃ q : Int, q = ((wordN (decT s 32) 2 : Nat) : Int) := ⟨_, rfl⟩
      obtain ⟨q3, hq3⟩ : ∃ q : Int, q = ((wordN (decT s 32) 3 : Nat) : Int) := ⟨_, rfl⟩
      rw [← hq0] at hc0
      rw [← hq1] at hc1
      rw [← hq2] at hc2
      rw [← hq3] at hc3
      have hD : dec s = ((decT s 32 : Nat) : Int) := by
        unfold dec decT
        rw [List.take_of_length_le]
        rw [Array.length_toList]
        exact hs2
      have hlim := limbs_of (decT s 32) (by have := dec_lt s hs.out; rw [hD] at this; omega) q0 q1 q2 q3 hq0 hq1 hq2 hq3
      rw [← hD, ← hv.out] at hlim
      obtain ⟨l0, hl0⟩ : ∃ l, bits .and .u64 q0 2251799813685247 = l := ⟨_, rfl⟩
      obtain ⟨l1, hl1⟩ : ∃ l, bits .and .u64 (bits .or .u64 (q0 / 2251799813685248) (IntKind.u64.wrap (q1 * 8192))) 2251799813685247 = l := ⟨_, rfl⟩
      obtain ⟨l2, hl2⟩ : ∃ l, bits .and .u64 (bits .or .u64 (q1 / 274877906944) (IntKind.u64.wrap (q2 * 67108864))) 2251799813685247 = l := ⟨_, rfl⟩
      obtain ⟨l3, hl3⟩ : ∃ l, bits .and .u64 (bits .or .u64 (q2 / 33554432) (IntKind.u64.wrap (q3 * 549755813888))) 2251799813685247 = l := ⟨_, rfl⟩
      obtain ⟨l4, hl4⟩ : ∃ l, bits .and .u64 (q3 / 4096) 2251799813685247 = l := ⟨_, rfl⟩
      rw [hl0, hl1, hl2, hl3, hl4] at hlim
      replace hlim := Lib.hid hlim
      replace hD := Lib.hid hD
      replace hE := Lib.hid hE
      replace hB := Lib.hid hB
      replace hq0 := Lib.hid hq0
      replace hq1 := Lib.hid hq1
      replace hq2 := Lib.hid hq2
      replace hq3 := Lib.hid hq3
      go_wp2
      have hb1 := el_set4 (v := l4) (el_set3 (v := l3) (el_set2 (v := l2) (el_set1 (v := l1) (el_set0 (v := l0) hE.out))))
      have hb2 := el_set4 (v := l4) (el_set3 (v := l3) (el_set2 (v := l2) (el_set1 (v := l1) (el_set0 (v := l0) hb1))))
      have ht1 := touch_el (i := 4) (v := .int .u64 l4) (touch_el (i := 3) (v := .int .u64 l3) (touch_el (i := 2) (v := .int .u64 l2) (touch_el (i := 1) (v := .int .u64 l1) (touch_el (g := w.heap.size) (i := 0) (v := .int .u64 l0) (Touch.refl _ wr)))))
      have ht2 := touch_el (i := 4) (v := .int .u64 l4) (touch_el (i := 3) (v := .int .u64 l3) (touch_el (i := 2) (v := .int .u64 l2) (touch_el (i := 1) (v := .int .u64 l1) (touch_el (i := 0) (v := .int .u64 l0) ht1))))
      exact bodyPost_ret (v := .agg #[.int .u64 l0, .int .u64 l1, .int .u64 l2, .int .u64 l3, .int .u64 l4]) (ret_cell (P := Try.prog) rfl rfl (blk_cells hb2) Try.underlying49 rfl (by kernel_rfl)) rfl
        ⟨by rw [hlim.out]; rfl, ht.trans ht2 fun i hi q => by omega⟩

end Go.Proofs.Ytfnmnmjpcamkiaa
