/-
  Layer 1: works, walked: the chapter's examples.
-/
import Derived.Test.YtfnmnmjpcamkiaaGod
namespace Go.Proofs.Ytfnmnmjpcamkiaa
open Go.RowKit
set_option linter.unusedVariables false
set_option linter.unusedSimpArgs false

theorem inv_mul (x : Int) (h : x % PP ≠ 0) : mulZ x (invN x) = 1 := by
  unfold mulZ invN
  rw [Int.mul_emod, Int.emod_emod, ← Int.mul_emod]
  exact inv_int x h _ rfl

theorem mulZ_comm (x y : Int) : mulZ x y = mulZ y x := by unfold mulZ; rw [Int.mul_comm]
theorem addZ_comm (x y : Int) : addZ x y = addZ y x := by unfold addZ; rw [Int.add_comm]

/-- k bytes of 255 and so many of 0. -/
def onesTo (k : Nat) : Array Value := (List.replicate k (Value.int .u8 255) ++ List.replicate (32 - k) (Value.int .u8 0)).toArray

theorem onesTo_cell (k : Nat) (h : k < 32) : (onesTo k)[k]? = some (.int .u8 0) := by
  unfold onesTo
  rw [List.getElem?_toArray, List.getElem?_append_right (by simp), List.length_replicate, Nat.sub_self, List.getElem?_replicate, if_pos (by omega)]

theorem onesTo_set (k : Nat) (h : k < 32) : (onesTo k).setIfInBounds k (.int .u8 255) = onesTo (k + 1) := by
  unfold onesTo
  rw [List.setIfInBounds_toArray, List.set_append_right k _ (by simp), List.length_replicate, Nat.sub_self]
  congr 1
  have : 32 - k = (32 - (k + 1)) + 1 := by omega
  rw [this, List.replicate_succ, List.replicate_succ', List.append_assoc]
  rfl

def onesS : ByteArray := ⟨(List.replicate 32 (255 : UInt8)).toArray⟩

theorem ones_dec : dec onesS % PP = 37 := by decide +kernel

set_option maxRecDepth 100000 in
set_option maxHeartbeats 1600000 in
theorem works_any (w : World) : Calls Try.prog 26 #[] w fun r w' => r = .returned (.bool true) ∧ Touch Nothing w w' := by
  have e1 : addZ (subZ 0 1) 2 = 1 := by decide +kernel
  have e2 : mulZ (invN 2) 2 = 1 := by rw [mulZ_comm]; exact inv_mul 2 (by decide)
  obtain ⟨m, hm⟩ : ∃ m, m = subZ 0 1 := ⟨_, rfl⟩
  obtain ⟨i, hi⟩ : ∃ i, i = invN 2 := ⟨_, rfl⟩
  have s0 := fun w => small1 w 0 (by omega) (by omega)
  have s1 := fun w => small1 w 1 (by omega) (by omega)
  have s2 := fun w => small1 w 2 (by omega) (by omega)
  have s37 := fun w => small1 w 37 (by omega) (by omega)
  have cS := fun w => sub2 w 0 1 (rng_small 0 (by omega) (by omega)) (rng_small 1 (by omega) (by omega))
  have cA := fun w t => add2 w (subZ 0 1) 2 t (rng_sub _ _) (rng_small 2 (by omega) (by omega))
  have cI := fun w => inv1 w 2 (rng_small 2 (by omega) (by omega))
  have cM := fun w t => mul2 w (invN 2) 2 t (rng_inv _) (rng_small 2 (by omega) (by omega))
  have cR := fun w => red1 w onesS (by decide)
  rw [e1] at cA
  rw [e2] at cM
  rw [ones_dec] at cR
  rw [← hm] at cS cA
  rw [← hi] at cI cM
  have h32 := enc_size 1
  obtain ⟨b1, hb1⟩ : ∃ b, b = enc 1 := ⟨_, rfl⟩
  rw [← hb1] at s1 cS cA cM h32
  obtain ⟨ones, hones⟩ : ∃ o, o = onesS := ⟨_, rfl⟩
  rw [← hones] at cR
  replace s0 := Lib.hid s0
  replace s1 := Lib.hid s1
  replace s2 := Lib.hid s2
  replace s37 := Lib.hid s37
  replace cS := Lib.hid cS
  replace cA := Lib.hid cA
  replace cI := Lib.hid cI
  replace cM := Lib.hid cM
  replace cR := Lib.hid cR
  replace hm := Lib.hid hm
  replace hi := Lib.hid hi
  replace hb1 := Lib.hid hb1
  replace hones := Lib.hid hones
  clear e1 e2
  go_enter Try.func26, Try.ntmps26
  go_upto_region 5 with (first | (go_at_call_of 34 (Value.int .i64 0); refine (s0.out _).mono ?_; rintro r w1 ⟨rfl, t1⟩) | (go_at_call_of 34 (Value.int .i64 1); refine (s1.out _).mono ?_; rintro r w2 ⟨rfl, t2⟩) | (go_at_call_of 34 (Value.int .i64 2); refine (s2.out _).mono ?_; rintro r w3 ⟨rfl, t3⟩) | (go_at_call 31; refine (cS.out _).mono ?_; rintro r w4 ⟨rfl, t4⟩) | (go_at_call 27; refine (cA.out _ _).mono ?_; rintro r w5 ⟨rfl, t5⟩) | (go_at_call 35; refine (cI.out _).mono ?_; rintro r w6 ⟨rfl, t6⟩) | (go_at_call 29; refine (cM.out _ _).mono ?_; rintro r w7 ⟨rfl, t7⟩))
  have hT7 : Touch Nothing w w7 := by repeat (first | exact Touch.refl _ _ | refine Touch.trans' ?_ (by assumption) | refine Touch.alloc ?_ _)
  clear t1 t2 t3 t4 t5 t6 t7
  have hmk : ∀ w, (Instr.makeSlice 42 (.int .i64 32) (.int .i64 32)).run Try.prog w = .ok (.slice (some ⟨w.heap.size, 0, none⟩) 32 32) (w.alloc (.cells (onesTo 0) 5)) := fun _ => by kernel_rfl
  go_wp2
  have hB0 := Lib.hid (heap_alloc_new w7 (.cells (onesTo 0) 5))
  go_loopw [41] (fun iv wr => ∃ k : Nat, k ≤ 32 ∧ iv = .int .i64 (k : Int) ∧ wr.heap[w7.heap.size]? = some (.cells (onesTo k) 5) ∧ Touch Nothing w wr) (fun iv _ => 32 - (intOf iv).toNat)
  case atStart => exact ⟨0, by omega, rfl, hB0.out, hT7.alloc _⟩
  case round =>
    obtain ⟨k, hk, rfl, hB, ht⟩ := hrel
    have hsz := hT7.size
    by_cases hlt : k < 32
    · have hold : wr.cell? ⟨w7.heap.size, k, none⟩ = some (.int .u8 0) := (cell_blk hB k).trans (onesTo_cell _ hlt)
      have hfz := frz_blk hB k
      have hlk : (0 : Int) ≤ (k : Int) := by omega
      replace hB := Lib.hid hB
      go_wp2
      have hst := touch_el1 (i := k) (v := .int .u8 255) (Touch.refl (fun j => j = w7.heap.size) wr)
      refine ⟨⟨k + 1, by omega, by simp, ?_, ht.trans hst fun i hi q => by omega⟩, by simp [intOf]; omega⟩
      have := heap_setCell_same hB.out k (.int .u8 255)
      rw [this, onesTo_set _ hlt]
    · obtain rfl : k = 32 := by omega
      have hsl : SlB wr (some ⟨w7.heap.size, 0, none⟩) 32 (List.replicate 32 (255 : UInt8)) := by
        refine ⟨by simp, fun i hi => ⟨_, _, rfl, ?_⟩⟩
        rw [Nat.zero_add, cell_blk hB]
        have : onesTo 32 = ((List.replicate 32 (255 : UInt8)).map byteV).toArray := rfl
        rw [this, List.getElem?_toArray, List.getElem?_map, List.getElem?_eq_getElem hi]
        rfl
      have hconv := hsl.conv (P := Try.prog) (n := 32) (by simp) 42 5 9 Try.underlying42 Try.underlying5 Try.underlying9 32
      have ho2 : (⟨(List.replicate 32 (255 : UInt8)).toArray⟩ : ByteArray) = ones := hones.out.symm
      rw [ho2] at hconv
      replace hB := Lib.hid hB
      replace hsl := Lib.hid hsl
      replace ho2 := Lib.hid ho2
      go_upto_region 12 with (go_at_call 19; refine (cR.out _).mono ?_; rintro r w8 ⟨rfl, t8⟩)
      go_wp2_with (first | (go_at_call_of 34 (Value.int .i64 1); refine (s1.out _).mono ?_; rintro r w2 ⟨rfl, t2⟩) | (go_at_call_of 34 (Value.int .i64 37); refine (s37.out _).mono ?_; rintro r w3 ⟨rfl, t3⟩))
      go_ret
      refine ⟨rfl, ?_⟩
      repeat (first | exact Touch.refl _ _ | refine Touch.trans' ?_ (by assumption) | refine Touch.alloc ?_ _)

end Go.Proofs.Ytfnmnmjpcamkiaa
