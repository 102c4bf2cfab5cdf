/-
  Layer 1: Text, walked.
-/
import Derived.Test.YtfnmnmjpcamkiaaLst
import Derived.Test.YtfnmnmjpcamkiaaEnc
namespace Go.Proofs.Ytfnmnmjpcamkiaa
open Go.RowKit
set_option linter.unusedVariables false
set_option linter.unusedSimpArgs false

/-- The block of bytes, k of them written. -/
def bytesTo (n k : Nat) : Array Value := ((encL n k).map byteV ++ List.replicate (32 - k) (Value.int .u8 0)).toArray

theorem touch_el1 {a w : World} {g i : Nat} {v : Value} (h : Touch (fun k => k = g) a w) : Touch (fun k => k = g) a (w.setCell ⟨g, i, none⟩ v) := h.setCell (p := ⟨g, i, none⟩) (fun _ => rfl) v

theorem bytesTo_zero (n : Nat) : bytesTo n 0 = #[.int .u8 0, .int .u8 0, .int .u8 0, .int .u8 0, .int .u8 0, .int .u8 0, .int .u8 0, .int .u8 0, .int .u8 0, .int .u8 0, .int .u8 0, .int .u8 0, .int .u8 0, .int .u8 0, .int .u8 0, .int .u8 0, .int .u8 0, .int .u8 0, .int .u8 0, .int .u8 0, .int .u8 0, .int .u8 0, .int .u8 0, .int .u8 0, .int .u8 0, .int .u8 0, .int .u8 0, .int .u8 0, .int .u8 0, .int .u8 0, .int .u8 0, .int .u8 0] := rfl

theorem bytesTo_cell (n k : Nat) (h : k < 32) : (bytesTo n k)[k]? = some (.int .u8 0) := by
  unfold bytesTo
  rw [List.getElem?_toArray, List.getElem?_append_right (by simp [encL_length]), List.length_map, encL_length, Nat.sub_self, List.getElem?_replicate, if_pos (by omega)]

theorem bytesTo_set (n k : Nat) (h : k < 32) : (bytesTo n k).setIfInBounds k (byteV (UInt8.ofNat (n / 256 ^ k % 256))) = bytesTo n (k + 1) := by
  unfold bytesTo
  have hl : ((encL n k).map byteV).length = k := by simp [encL_length]
  rw [List.setIfInBounds_toArray, encL_snoc, List.map_append, List.set_append_right k _ (by omega)]
  congr 1
  rw [List.append_assoc, hl, Nat.sub_self]
  congr 1
  have : 32 - k = (32 - (k + 1)) + 1 := by omega
  rw [this, List.replicate_succ]
  rfl

theorem bytesTo_all (n : Nat) : (bytesTo n 32).toList = (encL n 32).map byteV := by
  simp [bytesTo]

theorem byte_of (n a b : Nat) (hb : b < 8) : n / 2 ^ (64 * a) % 18446744073709551616 / 2 ^ (b * 8) % 256 = n / 256 ^ (8 * a + b) % 256 := by
  have e : (18446744073709551616 : Nat) = 2 ^ (b * 8) * 2 ^ (64 - b * 8) := by
    rw [← Nat.pow_add, show b * 8 + (64 - b * 8) = 64 by omega]
  rw [e, Nat.mod_mul_right_div_self, Nat.div_div_eq_div_mul, ← Nat.pow_add]
  have e2 : (2 : Nat) ^ (64 - b * 8) = 256 * 2 ^ (56 - b * 8) := by
    rw [show (256 : Nat) = 2 ^ 8 from rfl, ← Nat.pow_add]; congr 1; omega
  rw [e2, Nat.mod_mul_right_mod]
  congr 2
  rw [show (256 : Nat) = 2 ^ 8 from rfl, ← Nat.pow_mul]
  congr 1
  omega

theorem byte_cell (n : Nat) : byteV (UInt8.ofNat (n % 256)) = .int .u8 ((n % 256 : Nat) : Int) := by
  unfold byteV; rw [byte_toNat]

theorem or_lo (i : Nat) (x y : Nat) (hx : x < 2 ^ i) (h : y * 2 ^ i < 18446744073709551616) (hx2 : x < 18446744073709551616) : bits .or .u64 (x : Int) ((y * 2 ^ i : Nat) : Int) = ((x + y * 2 ^ i : Nat) : Int) := by
  rw [bits_or_u64_nat x (y * 2 ^ i) hx2 h]
  have := Nat.two_pow_add_eq_or_of_lt (i := i) (b := x) hx y
  rw [Nat.or_comm, Nat.mul_comm y, ← this, Nat.add_comm]

theorem or_lo_int (i : Nat) (x z : Int) (y : Nat) (hz : z = ((y * 2 ^ i : Nat) : Int)) (hx : 0 ≤ x ∧ x < ((2 ^ i : Nat) : Int)) (h : z < 18446744073709551616) (hx2 : x < 18446744073709551616) : bits .or .u64 x z = x + z := by
  obtain ⟨n, rfl⟩ := Int.eq_ofNat_of_zero_le hx.1
  subst hz
  rw [or_lo i n y (by omega) (by omega) (by omega)]
  omega

/-- The four words of a number of five limbs. -/
theorem words_of (v l0 l1 l2 l3 l4 : Int) (h0 : 0 ≤ l0 ∧ l0 < 2251799813685248) (h1 : 0 ≤ l1 ∧ l1 < 2251799813685248) (h2 : 0 ≤ l2 ∧ l2 < 2251799813685248) (h3 : 0 ≤ l3 ∧ l3 < 2251799813685248) (h4 : 0 ≤ l4 ∧ l4 < 2251799813685248)
    (hv : l0 + l1 * 2251799813685248 + l2 * 5070602400912917605986812821504 + l3 * 11417981541647679048466287755595961091061972992 + l4 * 25711008708143844408671393477458601640355247900524685364822016 = v) :
    bits .or .u64 l0 (IntKind.u64.wrap (l1 * 2251799813685248)) = v % 18446744073709551616 ∧
    bits .or .u64 (l1 / 8192) (IntKind.u64.wrap (l2 * 274877906944)) = v / 18446744073709551616 % 18446744073709551616 ∧
    bits .or .u64 (l2 / 67108864) (IntKind.u64.wrap (l3 * 33554432)) = v / 340282366920938463463374607431768211456 % 18446744073709551616 ∧
    bits .or .u64 (l3 / 549755813888) (l4 * 4096) = v / 6277101735386680763835789423207666416102355444464034512896 % 18446744073709551616 := by
  rw [IntKind.wrap_u64, IntKind.wrap_u64, IntKind.wrap_u64]
  have e0 := or_lo_int 51 l0 (l1 * 2251799813685248 % 18446744073709551616) (l1 % 8192).toNat (by omega) (by omega) (by omega) (by omega)
  have e1 := or_lo_int 38 (l1 / 8192) (l2 * 274877906944 % 18446744073709551616) (l2 % 67108864).toNat (by omega) (by omega) (by omega) (by omega)
  have e2 := or_lo_int 25 (l2 / 67108864) (l3 * 33554432 % 18446744073709551616) (l3 % 549755813888).toNat (by omega) (by omega) (by omega) (by omega)
  have e3 := or_lo_int 12 (l3 / 549755813888) (l4 * 4096) l4.toNat (by omega) (by omega) (by omega) (by omega)
  rw [e0, e1, e2, e3]
  omega

theorem word_nat (v : Int) (h : 0 ≤ v) (j : Nat) (hj : j < 4) (q0 q1 q2 q3 : Int) (h0 : q0 = v % 18446744073709551616) (h1 : q1 = v / 18446744073709551616 % 18446744073709551616) (h2 : q2 = v / 340282366920938463463374607431768211456 % 18446744073709551616)
    (h3 : q3 = v / 6277101735386680763835789423207666416102355444464034512896 % 18446744073709551616) :
    (#[.int .u64 q0, .int .u64 q1, .int .u64 q2, .int .u64 q3] : Array Value)[j]? = some (.int .u64 ((v.toNat / 2 ^ (64 * j) % 18446744073709551616 : Nat) : Int)) := by
  obtain ⟨n, rfl⟩ := Int.eq_ofNat_of_zero_le h
  rw [Int.toNat_natCast]
  subst h0 h1 h2 h3
  match j with
  | 0 => simp
  | 1 => simp
  | 2 => simp
  | 3 => simp
  | _ + 4 => omega

set_option maxRecDepth 100000 in
set_option maxHeartbeats 1600000 in
theorem Text_any (w : World) (g : Nat) (e : El) (h : w.heap[g]? = some (elC e)) (hb : e.below 9223372036854775808) :
    Calls Try.prog 53 #[.pointer (some ⟨g, 0, none⟩)] w fun r w' => r = .returned (.string (enc (e.val % PP))) ∧ Touch Nothing w w' := by
  have hL := least_any w e hb
  obtain ⟨c0, c1, c2, c3, c4⟩ := el_cells h
  have hgw := lt_of_heap h
  obtain ⟨v, hv⟩ : ∃ v, v = e.val % PP := ⟨_, rfl⟩
  have hv0 : 0 ≤ v := by rw [hv]; exact Int.emod_nonneg _ (by decide)
  have hv1 : v < PP := by rw [hv]; exact Int.emod_lt_of_pos _ (by decide)
  unfold leaE at hL
  rw [← hv] at hL ⊢
  have hbl := canE_below v
  have hval := canE_val v hv0 (by unfold PP at hv1; omega)
  obtain ⟨l, hl⟩ : ∃ l, l = canE v := ⟨_, rfl⟩
  rw [← hl] at hL hbl hval
  obtain ⟨l0, l1, l2, l3, l4⟩ := l
  obtain ⟨⟨p0, r0⟩, ⟨p1, r1⟩, ⟨p2, r2⟩, ⟨p3, r3⟩, ⟨p4, r4⟩⟩ := hbl
  simp only [] at p0 r0 p1 r1 p2 r2 p3 r3 p4 r4
  have hin : elV ⟨l0, l1, l2, l3, l4⟩ = .agg #[.int .u64 l0, .int .u64 l1, .int .u64 l2, .int .u64 l3, .int .u64 l4] := rfl
  rw [hin] at hL
  clear hin
  have hword : ∀ j, j < 4 → (#[.int .u64 (bits .or .u64 l0 (IntKind.u64.wrap (l1 * 2251799813685248))), .int .u64 (bits .or .u64 (l1 / 8192) (IntKind.u64.wrap (l2 * 274877906944))), .int .u64 (bits .or .u64 (l2 / 67108864) (IntKind.u64.wrap (l3 * 33554432))), .int .u64 (bits .or .u64 (l3 / 549755813888) (l4 * 4096))] : Array Value)[j]? = some (.int .u64 ((v.toNat / 2 ^ (64 * j) % 18446744073709551616 : Nat) : Int)) := by
    obtain ⟨w0, w1, w2, w3⟩ := words_of v l0 l1 l2 l3 l4 ⟨p0, r0⟩ ⟨p1, r1⟩ ⟨p2, r2⟩ ⟨p3, r3⟩ ⟨p4, r4⟩ hval
    exact fun j hj => word_nat v hv0 j hj _ _ _ _ w0 w1 w2 w3
  replace hL := Lib.hid hL
  replace h := Lib.hid h
  replace hv := Lib.hid hv
  replace hl := Lib.hid hl
  replace hval := Lib.hid hval
  clear hv0 hv1 hb
  obtain ⟨q0, hq0⟩ : ∃ q, bits .or .u64 l0 (IntKind.u64.wrap (l1 * 2251799813685248)) = q := ⟨_, rfl⟩
  obtain ⟨q1, hq1⟩ : ∃ q, bits .or .u64 (l1 / 8192) (IntKind.u64.wrap (l2 * 274877906944)) = q := ⟨_, rfl⟩
  obtain ⟨q2, hq2⟩ : ∃ q, bits .or .u64 (l2 / 67108864) (IntKind.u64.wrap (l3 * 33554432)) = q := ⟨_, rfl⟩
  obtain ⟨q3, hq3⟩ : ∃ q, bits .or .u64 (l3 / 549755813888) (l4 * 4096) = q := ⟨_, rfl⟩
  rw [hq0, hq1, hq2, hq3] at hword
  replace hword := Lib.hid hword
  go_enter Try.func53, Try.ntmps53
  go_upto_region 3 with (go_at_call 82; refine hL.out.mono ?_; rintro r w2 ⟨rfl, ht2⟩)
  have hWd : ∀ w2 : World, ((w2.alloc (.cells #[.int .u64 l0, .int .u64 l1, .int .u64 l2, .int .u64 l3, .int .u64 l4] 49)).alloc (.cells #[.int .u64 q0, .int .u64 q1, .int .u64 q2, .int .u64 q3] 78)).heap[w2.heap.size + 1]? = some (.cells #[.int .u64 q0, .int .u64 q1, .int .u64 q2, .int .u64 q3] 78) := fun w2 => by
    have := heap_alloc_new (w2.alloc (.cells #[.int .u64 l0, .int .u64 l1, .int .u64 l2, .int .u64 l3, .int .u64 l4] 49)) (.cells #[.int .u64 q0, .int .u64 q1, .int .u64 q2, .int .u64 q3] 78)
    simpa using this
  replace hWd := Lib.hid (hWd w2)
  go_wp2
  have hT0 : Touch Nothing w (((w2.alloc (.cells #[.int .u64 l0, .int .u64 l1, .int .u64 l2, .int .u64 l3, .int .u64 l4] 49)).alloc (.cells #[.int .u64 q0, .int .u64 q1, .int .u64 q2, .int .u64 q3] 78)).alloc (.cells (bytesTo v.toNat 0) 67)) := ((ht2.alloc _).alloc _).alloc _
  have hC0 : (((w2.alloc (.cells #[.int .u64 l0, .int .u64 l1, .int .u64 l2, .int .u64 l3, .int .u64 l4] 49)).alloc (.cells #[.int .u64 q0, .int .u64 q1, .int .u64 q2, .int .u64 q3] 78)).alloc (.cells (bytesTo v.toNat 0) 67)).heap[w2.heap.size + 1 + 1]? = some (.cells (bytesTo v.toNat 0) 67) := by
    have := heap_alloc_new ((w2.alloc (.cells #[.int .u64 l0, .int .u64 l1, .int .u64 l2, .int .u64 l3, .int .u64 l4] 49)).alloc (.cells #[.int .u64 q0, .int .u64 q1, .int .u64 q2, .int .u64 q3] 78)) (.cells (bytesTo v.toNat 0) 67)
    simpa using this
  replace hT0 := Lib.hid hT0
  replace hC0 := Lib.hid hC0
  have hsz := ht2.size
  replace ht2 := Lib.hid ht2
  go_loopw [39] (fun iv wr => ∃ k : Nat, k ≤ 32 ∧ iv = .int .i64 (k : Int) ∧ wr.heap[w2.heap.size + 1]? = some (.cells #[.int .u64 q0, .int .u64 q1, .int .u64 q2, .int .u64 q3] 78) ∧ wr.heap[w2.heap.size + 1 + 1]? = some (.cells (bytesTo v.toNat k) 67) ∧ Touch Nothing w wr) (fun iv _ => 32 - (intOf iv).toNat)
  case atStart => exact ⟨0, by omega, rfl, ((Touch.refl Nothing _).alloc _).heap hWd.out (fun q => q), hC0.out, hT0.out⟩
  case round =>
    obtain ⟨k, hk, rfl, hB, hC, ht⟩ := hrel
    by_cases hlt : k < 32
    · have hqq := hword.out (k / 8) (by omega)
      have hqc : wr.cell? ⟨w2.heap.size + 1, k / 8, none⟩ = some (.int .u64 ((v.toNat / 2 ^ (64 * (k / 8)) % 18446744073709551616 : Nat) : Int)) := (cell_blk hB (k / 8)).trans hqq
      have hbyte : ((v.toNat / 2 ^ (64 * (k / 8)) % 18446744073709551616 : Nat) : Int) / 2 ^ (k % 8 * 8) % 256 = ((v.toNat / 256 ^ k % 256 : Nat) : Int) := by
        have := byte_of v.toNat (k / 8) (k % 8) (by omega)
        rw [show 8 * (k / 8) + k % 8 = k by omega] at this
        rw [← this]
        simp
      obtain ⟨q, hq⟩ : ∃ q : Int, q = ((v.toNat / 2 ^ (64 * (k / 8)) % 18446744073709551616 : Nat) : Int) := ⟨_, rfl⟩
      have hqa : 0 ≤ q := by rw [hq]; exact Int.natCast_nonneg _
      have hqb : q < 18446744073709551616 := by rw [hq]; omega
      rw [← hq] at hqc hbyte
      have hold : wr.cell? ⟨w2.heap.size + 1 + 1, k, none⟩ = some (.int .u8 0) := (cell_blk hC k).trans (bytesTo_cell _ k hlt)
      have hfz := frz_blk hC k
      have hlk : (0 : Int) ≤ (k : Int) := by omega
      replace hB := Lib.hid hB
      replace hC := Lib.hid hC
      replace hq := Lib.hid hq
      replace hbyte := Lib.hid hbyte
      clear hqq
      go_wp2
      have hst := touch_el1 (i := k) (v := .int .u8 (q / 2 ^ (k % 8 * 8) % 256)) (Touch.refl (fun j => j = w2.heap.size + 1 + 1) wr)
      refine ⟨⟨k + 1, by omega, by simp, hst.heap hB.out (by omega), ?_, ht.trans hst fun i hi q => by omega⟩, by simp [intOf]; omega⟩
      have := heap_setCell_same hC.out k (.int .u8 (q / 2 ^ (k % 8 * 8) % 256))
      rw [this]
      rw [hbyte.out, ← byte_cell, bytesTo_set _ _ hlt]
    · obtain rfl : k = 32 := by omega
      have hsl : SlB wr (some ⟨w2.heap.size + 1 + 1, 0, none⟩) 32 (encL v.toNat 32) := by
        refine ⟨by rw [encL_length]; omega, fun i hi => ⟨_, _, rfl, ?_⟩⟩
        rw [Nat.zero_add, cell_blk hC, ← Array.getElem?_toList, bytesTo_all, List.getElem?_map, List.getElem?_eq_getElem hi]
        rfl
      have hconv := hsl.conv (P := Try.prog) (n := 32) (encL_length _ _) 42 5 9 Try.underlying42 Try.underlying5 Try.underlying9 32
      replace hB := Lib.hid hB
      replace hC := Lib.hid hC
      replace hsl := Lib.hid hsl
      go_wp2
      go_ret
      exact ⟨rfl, ht⟩

set_option maxRecDepth 100000 in
theorem text_any (w : World) (e : El) (hb : e.below 9223372036854775808) :
    Calls Try.prog 57 #[elV e] w fun r w' => r = .returned (.string (enc (e.val % PP))) ∧ Touch Nothing w w' := by
  have hT := Lib.hid (Text_any (w.alloc (elC e)) w.heap.size e (heap_alloc_new _ _) hb)
  have hin : elV e = .agg #[.int .u64 e.a0, .int .u64 e.a1, .int .u64 e.a2, .int .u64 e.a3, .int .u64 e.a4] := rfl
  rw [hin]
  clear hin hb
  go_enter Try.func57, Try.ntmps57
  go_wp2_with (go_at_call 53; refine hT.out.mono ?_; rintro r w2 ⟨rfl, ht2⟩)
  go_ret
  exact ⟨rfl, ((Touch.refl Nothing w).alloc _).trans' ht2⟩

end Go.Proofs.Ytfnmnmjpcamkiaa
