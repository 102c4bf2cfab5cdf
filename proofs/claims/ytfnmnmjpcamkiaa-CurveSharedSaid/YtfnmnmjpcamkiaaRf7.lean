/-
  Layer 1, the reference: Of, Bytes, One, Squared, Inverse, walked. Printed by mkrf7.py.
-/
import Derived.Test.YtfnmnmjpcamkiaaRf6
import Derived.Test.YtfnmnmjpcamkiaaBit
namespace Go.Proofs.Ytfnmnmjpcamkiaa
open Go.RowKit
set_option linter.unusedVariables false
set_option linter.unusedSimpArgs false

theorem i64_and1 (n : Int) : bits .and .i64 n 1 = n % 2 := by
  have h1 : (BitVec.ofInt 64 1).toNat = 2 ^ 1 - 1 := by decide
  have key : (BitVec.ofInt 64 n &&& BitVec.ofInt 64 1).toNat = (n % ((2 ^ 64 : Nat) : Int)).toNat % 2 ^ 1 := by
    rw [BitVec.toNat_and, BitVec.toNat_ofInt, h1, Nat.and_two_pow_sub_one_eq_mod]
  show IntKind.i64.wrap ((BitVec.ofInt 64 n &&& BitVec.ofInt 64 1).toNat : Nat) = n % 2
  rw [key, IntKind.wrap_i64]
  omega

theorem wrap_byte {x : Int} (h : 0 ≤ x ∧ x ≤ 255) : IntKind.i64.wrap x = x := wrap_i64 x (by omega)

/-- The bytes' number. -/
def decN (s : ByteArray) : Nat := decL s.data.toList

theorem byte_at (s : ByteArray) (k : Nat) (h : k < s.size) : s[k].toNat = decN s / 256 ^ k % 256 := by
  unfold decN
  rw [← getD_byte]
  congr 1
  have : k < s.data.toList.length := by rw [Array.length_toList]; exact h
  rw [List.getD_eq_getElem?_getD, List.getElem?_eq_getElem this]
  rfl

set_option maxRecDepth 100000 in
set_option maxHeartbeats 3200000 in
theorem Of_ref (w : World) (s : ByteArray) (hs : s.size = 32) :
    Calls Try.prog 60 #[.string s] w fun r w' => r = .returned (numV (canL (dec s) 10)) ∧ Touch Nothing w w' := by
  have hs2 : s.size ≤ 32 := by omega
  have hs3 : 32 ≤ s.size := by omega
  obtain ⟨n, hn⟩ : ∃ n, n = decN s := ⟨_, rfl⟩
  have hd : dec s = (n : Int) := by rw [hn]; rfl
  have hn2 : n < 2 ^ 256 := by
    have := dec_lt s hs
    rw [hd] at this
    have e : (2 : Nat) ^ 256 = 115792089237316195423570985008687907853269984665640564039457584007913129639936 := by decide
    rw [e]
    omega
  have hby : ∀ k (h : k < s.size), s[k].toNat = n / 256 ^ k % 256 := fun k h => by rw [hn]; exact byte_at s k h
  rw [hd]
  replace hn2 := Lib.hid hn2
  replace hby := Lib.hid hby
  replace hs := Lib.hid hs
  replace hd := Lib.hid hd
  replace hn := Lib.hid hn
  have hZ0 : ((w.alloc (numC zeroN)).alloc (numC zeroN)).heap[w.heap.size]? = some (numC zeroN) := by
    rw [Below.heap_alloc _ _ _ (by simp)]; exact heap_alloc_new _ _
  have hO0 : ((w.alloc (numC zeroN)).alloc (numC zeroN)).heap[w.heap.size + 1]? = some (numC zeroN) := by
    have := heap_alloc_new (w.alloc (numC zeroN)) (numC zeroN)
    simpa using this
  have hc0 : zeroN = canL ((n % 2 ^ 0 : Nat) : Int) 10 := by rw [Nat.pow_zero, Nat.mod_one]; rfl
  replace hZ0 := Lib.hid hZ0
  replace hO0 := Lib.hid hO0
  replace hc0 := Lib.hid hc0
  unfold numV
  go_enter Try.func60, Try.ntmps60
  go_wp2
  go_loopw [4] (fun iv wr => ∃ i : Nat, i ≤ 256 ∧ iv = .int .i64 (i : Int) ∧ wr.heap[w.heap.size]? = some (numC zeroN) ∧ wr.heap[w.heap.size + 1]? = some (numC (canL ((n % 2 ^ i : Nat) : Int) 10)) ∧ Touch Nothing w wr) (fun iv _ => 256 - (intOf iv).toNat)
  case atStart => exact ⟨0, by omega, rfl, hZ0.out, by rw [← hc0.out]; exact hO0.out, ((Touch.refl _ _).alloc _).alloc _⟩
  case round =>
    obtain ⟨i, hi, rfl, hZ, hO, ht⟩ := hrel
    by_cases hlt : i < 256
    · have hk8 : i / 8 < s.size := by omega
      have hbl := s[i / 8].toNat_lt
      have h255 : s[i / 8].toNat ≤ 255 := by omega
      have hbv := hby.out (i / 8) hk8
      have hbit : ((s[i / 8].toNat : Int) / 2 ^ (i % 8)) % 2 = ((n / 2 ^ i % 2 : Nat) : Int) := by
        have e := bit_of_byte n (i / 8) (i % 8) (by omega)
        rw [show 8 * (i / 8) + i % 8 = i by omega] at e
        rw [← e, ← hbv]
        simp
      have hand := i64_and1 ((s[i / 8].toNat : Int) / 2 ^ (i % 8))
      rw [hbit] at hand
      have hb2 : n / 2 ^ i % 2 < 2 := Nat.mod_lt _ (by omega)
      have hlow : n % 2 ^ i < 2 ^ i := Nat.mod_lt _ (Nat.two_pow_pos _)
      obtain ⟨l1, l0, hst⟩ := canL_bit (n % 2 ^ i) i (n / 2 ^ i % 2) hlow hb2 (by omega)
      rw [← mod_bit] at hst
      have c1 := (cell_blk hO (i / 26)).trans (numA_cell _ (i / 26) (by rw [canL_length]; omega))
      have f1 := frz_blk hO (i / 26)
      obtain ⟨b, hb⟩ : ∃ b : Int, b = ((n / 2 ^ i % 2 : Nat) : Int) := ⟨_, rfl⟩
      obtain ⟨d, hdd⟩ : ∃ d : Int, d = (canL ((n % 2 ^ i : Nat) : Int) 10).getD (i / 26) 0 := ⟨_, rfl⟩
      rw [← hb] at hand l1 hst
      rw [← hdd] at c1 l1 l0 hst
      have hb01 : 0 ≤ b ∧ b ≤ 1 := by rw [hb]; omega
      have hsh : 0 ≤ b * 2 ^ (i % 26) ∧ b * 2 ^ (i % 26) ≤ 33554432 := by
        have h25 : (2 : Int) ^ (i % 26) ≤ 33554432 := by
          have := Nat.pow_le_pow_right (n := 2) (by omega) (show i % 26 ≤ 25 by omega)
          have e : ((2 ^ (i % 26) : Nat) : Int) = 2 ^ (i % 26) := by simp
          rw [← e]; omega
        have hpos : (0 : Int) ≤ 2 ^ (i % 26) := by
          have e : ((2 ^ (i % 26) : Nat) : Int) = 2 ^ (i % 26) := by simp
          rw [← e]; exact Int.natCast_nonneg _
        exact ⟨Int.mul_nonneg hb01.1 hpos, by
          have := Int.mul_le_mul hb01.2 h25 hpos (by omega)
          omega⟩
      have hx0 : 0 ≤ (s[i / 8].toNat : Int) / 2 ^ (i % 8) ∧ (s[i / 8].toNat : Int) / 2 ^ (i % 8) ≤ 255 := by
        have e : (s[i / 8].toNat : Int) / 2 ^ (i % 8) = ((s[i / 8].toNat / 2 ^ (i % 8) : Nat) : Int) := by simp
        have := Nat.div_le_self s[i / 8].toNat (2 ^ (i % 8))
        rw [e]
        exact ⟨Int.natCast_nonneg _, Int.ofNat_le.2 (Nat.le_trans this h255)⟩
      have w0 := wrap_byte hx0
      clear hx0
      have w1 := wrap_i64 (b * 2 ^ (i % 26)) (by omega)
      have w2 := wrap_i64 (d + b * 2 ^ (i % 26)) (by omega)
      replace hb := Lib.hid hb
      replace hdd := Lib.hid hdd
      replace hst := Lib.hid hst
      replace hbit := Lib.hid hbit
      replace hbv := Lib.hid hbv
      replace hZ := Lib.hid hZ
      replace hO := Lib.hid hO
      have hi0 : (0 : Int) ≤ (i : Int) := by omega
      have hi1 : (i : Int) < 256 := by omega
      clear hlow hb2
      go_upto_region 6 with fail
      go_region
      go_wp2
      have hto := (touch_el1 (i := i / 26) (v := .int .i64 (d + b * 2 ^ (i % 26))) (Touch.refl (fun j => j = w.heap.size + 1) wr)).drew
      refine ⟨⟨i + 1, by omega, by simp, hto.heap hZ.out (by omega), ?_, ht.trans hto fun i hi q => by omega⟩, by simp [intOf]; omega⟩
      rw [drew_heap, num_set hO.out (i / 26) (d + b * 2 ^ (i % 26)), hst.out]
    · obtain rfl : i = 256 := by omega
      rw [Nat.mod_eq_of_lt hn2.out] at hO
      obtain ⟨x0, x1, x2, x3, x4, x5, x6, x7, x8, x9, hx⟩ := can_ten (n : Int)
      rw [hx] at hO
      obtain ⟨c0, c1, c2, c3, c4, c5, c6, c7, c8, c9⟩ := num_cells hO
      obtain ⟨d0, d1, d2, d3, d4, d5, d6, d7, d8, d9⟩ := num_cells (show wr.heap[w.heap.size]? = some (numC [0, 0, 0, 0, 0, 0, 0, 0, 0, 0]) from hZ)
      have g0 := frz_blk hZ 0
      have g1 := frz_blk hZ 1
      have g2 := frz_blk hZ 2
      have g3 := frz_blk hZ 3
      have g4 := frz_blk hZ 4
      have g5 := frz_blk hZ 5
      have g6 := frz_blk hZ 6
      have g7 := frz_blk hZ 7
      have g8 := frz_blk hZ 8
      have g9 := frz_blk hZ 9
      replace hZ := Lib.hid hZ
      replace hO := Lib.hid hO
      replace hx := Lib.hid hx
      go_wp2
      exact bodyPost_ret (v := numV [x0, x1, x2, x3, x4, x5, x6, x7, x8, x9]) (ret_num rfl rfl rfl (set10 rfl hZ.out)) rfl ⟨by rw [hx.out]; rfl, ht.trans touch10 fun i hi q => by omega⟩

def bytesV (m : Nat) : Obj := .cells ((encL m 32).map byteV).toArray 5

theorem bytesV_cell (m j : Nat) (h : j < 32) : ((encL m 32).map byteV).toArray[j]? = some (.int .u8 ((m / 256 ^ j % 256 : Nat) : Int)) := by
  have hl := encL_length m 32
  rw [List.getElem?_toArray, List.getElem?_map, List.getElem?_eq_getElem (by omega)]
  have := encL_get m 32 j h
  rw [List.getD_eq_getElem?_getD, List.getElem?_eq_getElem (by omega)] at this
  simp only [Option.getD_some] at this
  show some (byteV _) = _
  unfold byteV
  rw [this]

theorem wrap_u8 (x : Int) (h : 0 ≤ x ∧ x < 256) : IntKind.u8.wrap x = x := by rw [IntKind.wrap_u8]; omega

set_option maxRecDepth 100000 in
set_option maxHeartbeats 3200000 in
theorem Bytes_ref (w : World) (v : Int) (h0 : 0 ≤ v) (h1 : v < 115792089237316195423570985008687907853269984665640564039457584007913129639936) :
    Calls Try.prog 56 #[numV (canL v 10)] w fun r w' => r = .returned (.string (enc v)) ∧ Touch Nothing w w' := by
  obtain ⟨n, rfl⟩ := Int.eq_ofNat_of_zero_le h0
  have hn2 : n < 2 ^ 256 := by
    have e : (2 : Nat) ^ 256 = 115792089237316195423570985008687907853269984665640564039457584007913129639936 := by decide
    rw [e]; omega
  obtain ⟨X, eX⟩ : ∃ X, X = canL (n : Int) 10 := ⟨_, rfl⟩
  have lX : X.length = 10 := by rw [eX]; exact canL_length _ _
  have gX : ∀ j, j < 10 → X.getD j 0 = ((n / 67108864 ^ j % 67108864 : Nat) : Int) := fun j hj => by
    rw [eX, canL_get _ _ _ hj]; simp
  rw [← eX]
  have hB0 : ((w.alloc (numC X)).alloc (bytesV (n % 2 ^ 0))).heap[w.heap.size + 1]? = some (bytesV (n % 2 ^ 0)) := by
    have := heap_alloc_new (w.alloc (numC X)) (bytesV (n % 2 ^ 0))
    simpa using this
  have hX0 : ((w.alloc (numC X)).alloc (bytesV (n % 2 ^ 0))).heap[w.heap.size]? = some (numC X) := by
    rw [Below.heap_alloc _ _ _ (by simp)]; exact heap_alloc_new _ _
  have hz : ((encL (n % 2 ^ 0) 32).map byteV).toArray = ((encL 0 32).map byteV).toArray := by rw [Nat.pow_zero, Nat.mod_one]
  have hmk : ∀ w, (Instr.makeSlice 42 (.int .i64 32) (.int .i64 32)).run Try.prog w = .ok (.slice (some ⟨w.heap.size, 0, none⟩) 32 32) (w.alloc (.cells ((encL 0 32).map byteV).toArray 5)) := fun _ => by kernel_rfl
  rw [← hz] at hmk
  obtain ⟨ev, hev⟩ : ∃ ev, ev = enc (n : Int) := ⟨_, rfl⟩
  rw [← hev]
  replace hev := Lib.hid hev
  replace hz := Lib.hid hz
  replace hB0 := Lib.hid hB0
  replace hX0 := Lib.hid hX0
  replace eX := Lib.hid eX
  replace lX := Lib.hid lX
  replace gX := Lib.hid gX
  replace hn2 := Lib.hid hn2
  clear h0 h1
  unfold numV
  go_enter Try.func56, Try.ntmps56
  go_wp2
  go_loopw [4] (fun iv wr => ∃ i : Nat, i ≤ 256 ∧ iv = .int .i64 (i : Int) ∧ wr.heap[w.heap.size]? = some (numC X) ∧ wr.heap[w.heap.size + 1]? = some (bytesV (n % 2 ^ i)) ∧ Touch Nothing w wr) (fun iv _ => 256 - (intOf iv).toNat)
  case atStart => exact ⟨0, by omega, rfl, hX0.out, hB0.out, ((Touch.refl _ _).alloc _).alloc _⟩
  case round =>
    clear hmk
    obtain ⟨i, hi, rfl, hX, hB, ht⟩ := hrel
    by_cases hlt : i < 256
    · have c1 := (cell_blk hX (i / 26)).trans (numA_cell X (i / 26) (by rw [lX.out]; omega))
      rw [gX.out (i / 26) (by omega)] at c1
      have c2 := (cell_blk hB (i / 8)).trans (bytesV_cell (n % 2 ^ i) (i / 8) (by omega))
      have f2 := frz_blk hB (i / 8)
      have hb2 : n / 2 ^ i % 2 < 2 := Nat.mod_lt _ (by omega)
      have hlow : n % 2 ^ i < 2 ^ i := Nat.mod_lt _ (Nat.two_pow_pos _)
      have hbit : ((n / 67108864 ^ (i / 26) % 67108864 : Nat) : Int) / 2 ^ (i % 26) % 2 = ((n / 2 ^ i % 2 : Nat) : Int) := by
        have e := bit_of_digit n (i / 26) (i % 26) (by omega)
        rw [show 26 * (i / 26) + i % 26 = i by omega] at e
        rw [← e]
        simp
      have hand := i64_and1 (((n / 67108864 ^ (i / 26) % 67108864 : Nat) : Int) / 2 ^ (i % 26))
      rw [hbit] at hand
      have hx0 : 0 ≤ ((n / 67108864 ^ (i / 26) % 67108864 : Nat) : Int) / 2 ^ (i % 26) ∧ ((n / 67108864 ^ (i / 26) % 67108864 : Nat) : Int) / 2 ^ (i % 26) ≤ 67108864 := by
        have e : ((n / 67108864 ^ (i / 26) % 67108864 : Nat) : Int) / 2 ^ (i % 26) = ((n / 67108864 ^ (i / 26) % 67108864 / 2 ^ (i % 26) : Nat) : Int) := by simp
        have h1 := Nat.div_le_self (n / 67108864 ^ (i / 26) % 67108864) (2 ^ (i % 26))
        have h2 : n / 67108864 ^ (i / 26) % 67108864 < 67108864 := Nat.mod_lt _ (by omega)
        rw [e]
        exact ⟨Int.natCast_nonneg _, Int.ofNat_le.2 (Nat.le_trans h1 (Nat.le_of_lt h2))⟩
      obtain ⟨l1, hst⟩ := encL_bit (n % 2 ^ i) i (n / 2 ^ i % 2) hlow hb2 hlt
      rw [← mod_bit] at hst
      obtain ⟨b, hb⟩ : ∃ b : Nat, b = n / 2 ^ i % 2 := ⟨_, rfl⟩
      obtain ⟨c, hcc⟩ : ∃ c : Nat, c = n % 2 ^ i / 256 ^ (i / 8) % 256 := ⟨_, rfl⟩
      obtain ⟨d, hdd⟩ : ∃ d : Int, d = ((n / 67108864 ^ (i / 26) % 67108864 : Nat) : Int) := ⟨_, rfl⟩
      rw [← hb] at hand hst l1
      rw [← hcc] at c2 hst l1
      rw [← hdd] at c1 hand hx0
      have hb1 : b ≤ 1 := by omega
      have hsh : (b : Int) * 2 ^ (i % 8) = ((b * 2 ^ (i % 8) : Nat) : Int) := by simp
      have hsum : (c : Int) + (b : Int) * 2 ^ (i % 8) = ((c + b * 2 ^ (i % 8) : Nat) : Int) := by simp
      have w0 := wrap_i64 (d / 2 ^ (i % 26)) (by omega)
      have w1 := wrap_u8 (b : Int) (by omega)
      have w2 : IntKind.u8.wrap ((b : Int) * 2 ^ (i % 8)) = (b : Int) * 2 ^ (i % 8) := wrap_u8 _ (by
        rw [hsh]
        exact ⟨Int.natCast_nonneg _, Int.ofNat_lt.2 (Nat.lt_of_le_of_lt (Nat.le_add_left _ _) l1)⟩)
      have hval : Value.int .u8 (((c : Int) + (b : Int) * 2 ^ (i % 8)) % 256) = byteV (UInt8.ofNat ((c + b * 2 ^ (i % 8)) % 256)) := by
        rw [byte_cell, hsum, Int.natCast_emod]
        rfl
      replace hval := Lib.hid hval
      replace hb := Lib.hid hb
      replace hcc := Lib.hid hcc
      replace hdd := Lib.hid hdd
      replace hst := Lib.hid hst
      replace hX := Lib.hid hX
      replace hB := Lib.hid hB
      have hi0 : (0 : Int) ≤ (i : Int) := by omega
      have hi1 : (i : Int) < 256 := by omega
      clear hlow hb2 hbit hsh hsum hx0 l1
      go_upto_region 6 with fail
      go_region
      go_wp2
      have hto := (touch_el1 (i := i / 8) (v := .int .u8 (((c : Int) + (b : Int) * 2 ^ (i % 8)) % 256)) (Touch.refl (fun j => j = w.heap.size + 1) wr)).drew
      refine ⟨⟨i + 1, by omega, by simp, hto.heap hX.out (by omega), ?_, ht.trans hto fun i hi q => by omega⟩, by simp [intOf]; omega⟩
      have := heap_setCell_same hB.out (i / 8) (.int .u8 (((c : Int) + (b : Int) * 2 ^ (i % 8)) % 256))
      rw [drew_heap, this, hval.out, List.setIfInBounds_toArray, ← List.map_set, hst.out]
      rfl
    · obtain rfl : i = 256 := by omega
      rw [Nat.mod_eq_of_lt hn2.out] at hB
      have hsl : SlB wr (some ⟨w.heap.size + 1, 0, none⟩) 32 (encL n 32) := by
        refine ⟨by rw [encL_length]; omega, fun i hi => ⟨_, _, rfl, ?_⟩⟩
        rw [Nat.zero_add, cell_blk hB, List.getElem?_toArray, List.getElem?_map, List.getElem?_eq_getElem hi]
        rfl
      have hconv := hsl.conv (P := Try.prog) (n := 32) (encL_length _ _) 42 5 9 Try.underlying42 Try.underlying5 Try.underlying9 32
      have he : (⟨(encL n 32).toArray⟩ : ByteArray) = ev := by rw [hev.out]; rfl
      rw [he] at hconv
      replace he := Lib.hid he
      replace hX := Lib.hid hX
      replace hB := Lib.hid hB
      replace hsl := Lib.hid hsl
      go_wp2
      go_ret
      exact ⟨rfl, ht⟩

end Go.Proofs.Ytfnmnmjpcamkiaa
