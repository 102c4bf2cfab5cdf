/-
  Layer 1: Text, wherever its number lies.
-/
import Derived.Test.YtfnmnmjpcamkiaaPos
import Derived.Test.YtfnmnmjpcamkiaaTxt
namespace Go.Proofs.Ytfnmnmjpcamkiaa
open Go.RowKit
set_option linter.unusedVariables false
set_option linter.unusedSimpArgs false

set_option maxRecDepth 100000 in
set_option maxHeartbeats 1600000 in
theorem Text_at {ox : Nat} {K : El → Obj} (P : Pos ox K) (w : World) (g : Nat) (e : El) (h : w.heap[g]? = some (K e)) (hb : e.below 9223372036854775808) :
    Calls Try.prog 53 #[.pointer (some ⟨g, ox, none⟩)] w fun r w' => r = .returned (.string (enc (e.val % PP))) ∧ Touch Nothing w w' := by
  have hL := least_any w e hb
  obtain ⟨c0, c1, c2, c3, c4⟩ := P.cells h
  have hgw := lt_of_heap h
  obtain ⟨v, hv⟩ : ∃ v, v = e.val % PP := ⟨_, rfl⟩
  have hv0 : 0 ≤ v := by rw [hv]; exact Int.emod_nonneg _ (by decide)
  have hv1 : v < PP := by rw [hv]; exact Int.emod_lt_of_pos _ (by decide)
  unfold leaE at hL
  rw [← hv] at hL ⊢
  have hbl := canE_below v
  have hval := canE_val v hv0 (by unfold PP at hv1; omega)
  obtain ⟨l, hl⟩ : ∃ l, l = canE v := ⟨_, rfl⟩
  rw [← hl] at hL hbl hval
  obtain ⟨l0, l1, l2, l3, l4⟩ := l
  obtain ⟨⟨p0, r0⟩, ⟨p1, r1⟩, ⟨p2, r2⟩, ⟨p3, r3⟩, ⟨p4, r4⟩⟩ := hbl
  simp only [] at p0 r0 p1 r1 p2 r2 p3 r3 p4 r4
  have hin : elV ⟨l0, l1, l2, l3, l4⟩ = .agg #[.int .u64 l0, .int .u64 l1, .int .u64 l2, .int .u64 l3, .int .u64 l4] := rfl
  rw [hin] at hL
  clear hin
  have hword : ∀ j, j < 4 → (#[.int .u64 (bits .or .u64 l0 (IntKind.u64.wrap (l1 * 2251799813685248))), .int .u64 (bits .or .u64 (l1 / 8192) (IntKind.u64.wrap (l2 * 274877906944))), .int .u64 (bits .or .u64 (l2 / 67108864) (IntKind.u64.wrap (l3 * 33554432))), .int .u64 (bits .or .u64 (l3 / 549755813888) (l4 * 4096))] : Array Value)[j]? = some (.int .u64 ((v.toNat / 2 ^ (64 * j) % 18446744073709551616 : Nat) : Int)) := by
    obtain ⟨w0, w1, w2, w3⟩ := words_of v l0 l1 l2 l3 l4 ⟨p0, r0⟩ ⟨p1, r1⟩ ⟨p2, r2⟩ ⟨p3, r3⟩ ⟨p4, r4⟩ hval
    exact fun j hj => word_nat v hv0 j hj _ _ _ _ w0 w1 w2 w3
  replace hL := Lib.hid hL
  replace h := Lib.hid h
  clear P
  replace hv := Lib.hid hv
  replace hl := Lib.hid hl
  replace hval := Lib.hid hval
  clear hv0 hv1 hb
  obtain ⟨q0, hq0⟩ : ∃ q, bits .or .u64 l0 (IntKind.u64.wrap (l1 * 2251799813685248)) = q := ⟨_, rfl⟩
  obtain ⟨q1, hq1⟩ : ∃ q, bits .or .u64 (l1 / 8192) (IntKind.u64.wrap (l2 * 274877906944)) = q := ⟨_, rfl⟩
  obtain ⟨q2, hq2⟩ : ∃ q, bits .or .u64 (l2 / 67108864) (IntKind.u64.wrap (l3 * 33554432)) = q := ⟨_, rfl⟩
  obtain ⟨q3, hq3⟩ : ∃ q, bits .or .u64 (l3 / 549755813888) (l4 * 4096) = q := ⟨_, rfl⟩
  rw [hq0, hq1, hq2, hq3] at hword
  replace hword := Lib.hid hword
  go_enter Try.func53, Try.ntmps53
  go_upto_region 3 with (go_at_call 82; refine hL.out.mono ?_; rintro r w2 ⟨rfl, ht2⟩)
  have hWd : ∀ w2 : World, ((w2.alloc (.cells #[.int .u64 l0, .int .u64 l1, .int .u64 l2, .int .u64 l3, .int .u64 l4] 49)).alloc (.cells #[.int .u64 q0, .int .u64 q1, .int .u64 q2, .int .u64 q3] 78)).heap[w2.heap.size + 1]? = some (.cells #[.int .u64 q0, .int .u64 q1, .int .u64 q2, .int .u64 q3] 78) := fun w2 => by
    have := heap_alloc_new (w2.alloc (.cells #[.int .u64 l0, .int .u64 l1, .int .u64 l2, .int .u64 l3, .int .u64 l4] 49)) (.cells #[.int .u64 q0, .int .u64 q1, .int .u64 q2, .int .u64 q3] 78)
    simpa using this
  replace hWd := Lib.hid (hWd w2)
  go_wp2
  have hT0 : Touch Nothing w (((w2.alloc (.cells #[.int .u64 l0, .int .u64 l1, .int .u64 l2, .int .u64 l3, .int .u64 l4] 49)).alloc (.cells #[.int .u64 q0, .int .u64 q1, .int .u64 q2, .int .u64 q3] 78)).alloc (.cells (bytesTo v.toNat 0) 67)) := ((ht2.alloc _).alloc _).alloc _
  have hC0 : (((w2.alloc (.cells #[.int .u64 l0, .int .u64 l1, .int .u64 l2, .int .u64 l3, .int .u64 l4] 49)).alloc (.cells #[.int .u64 q0, .int .u64 q1, .int .u64 q2, .int .u64 q3] 78)).alloc (.cells (bytesTo v.toNat 0) 67)).heap[w2.heap.size + 1 + 1]? = some (.cells (bytesTo v.toNat 0) 67) := by
    have := heap_alloc_new ((w2.alloc (.cells #[.int .u64 l0, .int .u64 l1, .int .u64 l2, .int .u64 l3, .int .u64 l4] 49)).alloc (.cells #[.int .u64 q0, .int .u64 q1, .int .u64 q2, .int .u64 q3] 78)) (.cells (bytesTo v.toNat 0) 67)
    simpa using this
  replace hT0 := Lib.hid hT0
  replace hC0 := Lib.hid hC0
  have hsz := ht2.size
  replace ht2 := Lib.hid ht2
  go_loopw [39] (fun iv wr => ∃ k : Nat, k ≤ 32 ∧ iv = .int .i64 (k : Int) ∧ wr.heap[w2.heap.size + 1]? = some (.cells #[.int .u64 q0, .int .u64 q1, .int .u64 q2, .int .u64 q3] 78) ∧ wr.heap[w2.heap.size + 1 + 1]? = some (.cells (bytesTo v.toNat k) 67) ∧ Touch Nothing w wr) (fun iv _ => 32 - (intOf iv).toNat)
  case atStart => exact ⟨0, by omega, rfl, ((Touch.refl Nothing _).alloc _).heap hWd.out (fun q => q), hC0.out, hT0.out⟩
  case round =>
    obtain ⟨k, hk, rfl, hB, hC, ht⟩ := hrel
    by_cases hlt : k < 32
    · have hqq := hword.out (k / 8) (by omega)
      have hqc : wr.cell? ⟨w2.heap.size + 1, k / 8, none⟩ = some (.int .u64 ((v.toNat / 2 ^ (64 * (k / 8)) % 18446744073709551616 : Nat) : Int)) := (cell_blk hB (k / 8)).trans hqq
      have hbyte : ((v.toNat / 2 ^ (64 * (k / 8)) % 18446744073709551616 : Nat) : Int) / 2 ^ (k % 8 * 8) % 256 = ((v.toNat / 256 ^ k % 256 : Nat) : Int) := by
        have := byte_of v.toNat (k / 8) (k % 8) (by omega)
        rw [show 8 * (k / 8) + k % 8 = k by omega] at this
        rw [← this]
        simp
      obtain ⟨q, hq⟩ : ∃ q : Int, q = ((v.toNat / 2 ^ (64 * (k / 8)) % 18446744073709551616 : Nat) : Int) := ⟨_, rfl⟩
      have hqa : 0 ≤ q := by rw [hq]; exact Int.natCast_nonneg _
      have hqb : q < 18446744073709551616 := by rw [hq]; omega
      rw [← hq] at hqc hbyte
      have hold : wr.cell? ⟨w2.heap.size + 1 + 1, k, none⟩ = some (.int .u8 0) := (cell_blk hC k).trans (bytesTo_cell _ k hlt)
      have hfz := frz_blk hC k
      have hlk : (0 : Int) ≤ (k : Int) := by omega
      replace hB := Lib.hid hB
      replace hC := Lib.hid hC
      replace hq := Lib.hid hq
      replace hbyte := Lib.hid hbyte
      clear hqq
      go_wp2
      have hst := touch_el1 (i := k) (v := .int .u8 (q / 2 ^ (k % 8 * 8) % 256)) (Touch.refl (fun j => j = w2.heap.size + 1 + 1) wr)
      refine ⟨⟨k + 1, by omega, by simp, hst.heap hB.out (by omega), ?_, ht.trans hst fun i hi q => by omega⟩, by simp [intOf]; omega⟩
      have := heap_setCell_same hC.out k (.int .u8 (q / 2 ^ (k % 8 * 8) % 256))
      rw [this]
      rw [hbyte.out, ← byte_cell, bytesTo_set _ _ hlt]
    · obtain rfl : k = 32 := by omega
      have hsl : SlB wr (some ⟨w2.heap.size + 1 + 1, 0, none⟩) 32 (encL v.toNat 32) := by
        refine ⟨by rw [encL_length]; omega, fun i hi => ⟨_, _, rfl, ?_⟩⟩
        rw [Nat.zero_add, cell_blk hC, ← Array.getElem?_toList, bytesTo_all, List.getElem?_map, List.getElem?_eq_getElem hi]
        rfl
      have hconv := hsl.conv (P := Try.prog) (n := 32) (encL_length _ _) 42 5 9 Try.underlying42 Try.underlying5 Try.underlying9 32
      replace hB := Lib.hid hB
      replace hC := Lib.hid hC
      replace hsl := Lib.hid hsl
      go_wp2
      go_ret
      exact ⟨rfl, ht⟩

end Go.Proofs.Ytfnmnmjpcamkiaa
