/-
  Layer 1: carry, walked.
-/
import Derived.Test.YtfnmnmjpcamkiaaProg
import Derived.Test.YtfnmnmjpcamkiaaMem
import Derived.Test.YtfnmnmjpcamkiaaFe
import Derived.Outline
import Derived.Deep.QuietTactic
import Derived.BigQuiet
import Derived.IntWalk
import Derived.Deep.RegionWith
import Derived.Deep.RegionHeld3
import Derived.Deep.DeepCutAuto
import Derived.Shelf.Bits.Mul64
namespace Go.Proofs.Ytfnmnmjpcamkiaa
open Go.RowKit
set_option linter.unusedVariables false
set_option linter.unusedSimpArgs false

def elC (e : El) : Obj := .cells #[.int .u64 e.a0, .int .u64 e.a1, .int .u64 e.a2, .int .u64 e.a3, .int .u64 e.a4] 49
def elV (e : El) : Value := .agg #[.int .u64 e.a0, .int .u64 e.a1, .int .u64 e.a2, .int .u64 e.a3, .int .u64 e.a4]

theorem u64_in (x : Int) (h : 0 ≤ x ∧ x < 18446744073709551616) : IntKind.u64.wrap x = x := by rw [IntKind.wrap_u64]; omega

theorem mask51 (x : Int) (h : 0 ≤ x ∧ x < 18446744073709551616) : bits .and .u64 x 2251799813685247 = x % 2251799813685248 := by
  obtain ⟨n, rfl⟩ := Int.eq_ofNat_of_zero_le h.1
  have h := bits_and_u64_nat n 2251799813685247 (by omega) (by omega)
  have e : n &&& 2251799813685247 = n % 2251799813685248 := Nat.and_two_pow_sub_one_eq_mod n 51
  rw [e] at h
  exact h.trans (by omega)

theorem el_set0 {w : World} {g : Nat} {a0 a1 a2 a3 a4 v : Int} (h : w.heap[g]? = some (elC ⟨a0, a1, a2, a3, a4⟩)) : (w.setCell ⟨g, 0, none⟩ (.int .u64 v)).heap[g]? = some (elC ⟨v, a1, a2, a3, a4⟩) := heap_setCell_same h 0 _
theorem el_set1 {w : World} {g : Nat} {a0 a1 a2 a3 a4 v : Int} (h : w.heap[g]? = some (elC ⟨a0, a1, a2, a3, a4⟩)) : (w.setCell ⟨g, 1, none⟩ (.int .u64 v)).heap[g]? = some (elC ⟨a0, v, a2, a3, a4⟩) := heap_setCell_same h 1 _
theorem el_set2 {w : World} {g : Nat} {a0 a1 a2 a3 a4 v : Int} (h : w.heap[g]? = some (elC ⟨a0, a1, a2, a3, a4⟩)) : (w.setCell ⟨g, 2, none⟩ (.int .u64 v)).heap[g]? = some (elC ⟨a0, a1, v, a3, a4⟩) := heap_setCell_same h 2 _
theorem el_set3 {w : World} {g : Nat} {a0 a1 a2 a3 a4 v : Int} (h : w.heap[g]? = some (elC ⟨a0, a1, a2, a3, a4⟩)) : (w.setCell ⟨g, 3, none⟩ (.int .u64 v)).heap[g]? = some (elC ⟨a0, a1, a2, v, a4⟩) := heap_setCell_same h 3 _
theorem el_set4 {w : World} {g : Nat} {a0 a1 a2 a3 a4 v : Int} (h : w.heap[g]? = some (elC ⟨a0, a1, a2, a3, a4⟩)) : (w.setCell ⟨g, 4, none⟩ (.int .u64 v)).heap[g]? = some (elC ⟨a0, a1, a2, a3, v⟩) := heap_setCell_same h 4 _

theorem touch_el {a w : World} {g i : Nat} {v : Value} (h : Touch (fun k => k = g) a w) : Touch (fun k => k = g) a (w.setCell ⟨g, i, none⟩ v) := h.setCell (p := ⟨g, i, none⟩) (fun _ => rfl) v

theorem drew_heap (w : World) : w.drew.heap = w.heap := rfl

set_option maxHeartbeats 1600000 in
theorem carry_any (w : World) (g : Nat) (e : El) (h : w.heap[g]? = some (elC e)) (hb : e.below 9223372036854775808) :
    Calls Try.prog 81 #[.pointer (some ⟨g, 0, none⟩)] w fun r w' => r = .returned (.tuple #[]) ∧ w'.heap[g]? = some (elC (carE e)) ∧ Touch (fun k => k = g) w w' := by
  obtain ⟨a0, a1, a2, a3, a4⟩ := e
  obtain ⟨h0, h1, h2, h3, h4⟩ := hb
  simp only [] at h0 h1 h2 h3 h4
  have c0 : w.cell? ⟨g, 0, none⟩ = some (.int .u64 a0) := (cell_blk h 0).trans rfl
  have c1 : w.cell? ⟨g, 1, none⟩ = some (.int .u64 a1) := (cell_blk h 1).trans rfl
  have c2 : w.cell? ⟨g, 2, none⟩ = some (.int .u64 a2) := (cell_blk h 2).trans rfl
  have c3 : w.cell? ⟨g, 3, none⟩ = some (.int .u64 a3) := (cell_blk h 3).trans rfl
  have c4 : w.cell? ⟨g, 4, none⟩ = some (.int .u64 a4) := (cell_blk h 4).trans rfl
  have f0 := frz_blk h 0
  have f1 := frz_blk h 1
  have f2 := frz_blk h 2
  have f3 := frz_blk h 3
  have f4 := frz_blk h 4
  have w1 := u64_in (a1 + a0 / 2251799813685248) (by omega)
  have w2 := u64_in (a2 + (a1 + a0 / 2251799813685248) / 2251799813685248) (by omega)
  have w3 := u64_in (a3 + (a2 + (a1 + a0 / 2251799813685248) / 2251799813685248) / 2251799813685248) (by omega)
  have w4 := u64_in (a4 + (a3 + (a2 + (a1 + a0 / 2251799813685248) / 2251799813685248) / 2251799813685248) / 2251799813685248) (by omega)
  have m0 := mask51 (a0) (by omega)
  have m1 := mask51 (a1 + a0 / 2251799813685248) (by omega)
  have m2 := mask51 (a2 + (a1 + a0 / 2251799813685248) / 2251799813685248) (by omega)
  have m3 := mask51 (a3 + (a2 + (a1 + a0 / 2251799813685248) / 2251799813685248) / 2251799813685248) (by omega)
  have m4 := mask51 (a4 + (a3 + (a2 + (a1 + a0 / 2251799813685248) / 2251799813685248) / 2251799813685248) / 2251799813685248) (by omega)
  have w5 := u64_in (19 * ((a4 + (a3 + (a2 + (a1 + a0 / 2251799813685248) / 2251799813685248) / 2251799813685248) / 2251799813685248) / 2251799813685248)) (by omega)
  have w6 := u64_in (a0 % 2251799813685248 + 19 * ((a4 + (a3 + (a2 + (a1 + a0 / 2251799813685248) / 2251799813685248) / 2251799813685248) / 2251799813685248) / 2251799813685248)) (by omega)
  have he : carE ⟨a0, a1, a2, a3, a4⟩ = ⟨a0 % 2251799813685248 + 19 * ((a4 + (a3 + (a2 + (a1 + a0 / 2251799813685248) / 2251799813685248) / 2251799813685248) / 2251799813685248) / 2251799813685248), (a1 + a0 / 2251799813685248) % 2251799813685248, (a2 + (a1 + a0 / 2251799813685248) / 2251799813685248) % 2251799813685248, (a3 + (a2 + (a1 + a0 / 2251799813685248) / 2251799813685248) / 2251799813685248) % 2251799813685248, (a4 + (a3 + (a2 + (a1 + a0 / 2251799813685248) / 2251799813685248) / 2251799813685248) / 2251799813685248) % 2251799813685248⟩ := rfl
  rw [he]
  clear he
  replace h := Lib.hid h
  clear h0 h1 h2 h3 h4
  go_enter Try.func81, Try.ntmps81
  go_upto_region 0 with fail
  go_region
  go_wp2
  go_region
  go_wp2
  go_region
  go_wp2
  go_region
  go_wp2
  go_region
  go_wp2
  go_region
  go_wp2
  go_region
  go_wp2
  go_region
  go_wp2
  go_region
  go_wp2
  go_end0
  refine ⟨rfl, ?_, ?_⟩
  · simp only [drew_heap]
    exact (el_set4 (el_set3 (el_set2 (el_set1 (el_set0 (el_set4 (el_set3 (el_set2 (el_set1 h.out)))))))))
  · refine Touch.drew ?_
    refine Touch.drew ?_
    refine Touch.drew ?_
    refine Touch.drew ?_
    refine Touch.drew ?_
    refine Touch.drew ?_
    refine Touch.drew ?_
    refine Touch.drew ?_
    refine Touch.drew ?_
    refine touch_el ?_
    refine touch_el ?_
    refine touch_el ?_
    refine touch_el ?_
    refine touch_el ?_
    refine touch_el ?_
    refine touch_el ?_
    refine touch_el ?_
    refine touch_el ?_
    exact Touch.refl _ _

end Go.Proofs.Ytfnmnmjpcamkiaa
