/-
  Layer 1: an element that lies somewhere in a block: at offset o of a block whose content hangs on the element as K. Printed by mkpos.py.
-/
import Derived.Test.YtfnmnmjpcamkiaaTms
namespace Go.Proofs.Ytfnmnmjpcamkiaa
open Go.RowKit
set_option linter.unusedVariables false
set_option linter.unusedSimpArgs false

def ad (o i : Nat) : Nat := o + i

structure Pos (o : Nat) (K : El → Obj) : Prop where
  cells : ∀ {w : World} {g : Nat} {e : El}, w.heap[g]? = some (K e) → w.cell? ⟨g, o, none⟩ = some (.int .u64 e.a0) ∧ w.cell? ⟨g, o + 1, none⟩ = some (.int .u64 e.a1) ∧ w.cell? ⟨g, o + 2, none⟩ = some (.int .u64 e.a2) ∧ w.cell? ⟨g, o + 3, none⟩ = some (.int .u64 e.a3) ∧ w.cell? ⟨g, o + 4, none⟩ = some (.int .u64 e.a4)
  frz : ∀ {w : World} {g : Nat} {e : El}, w.heap[g]? = some (K e) → ∀ i, w.frozen? ⟨g, i, none⟩ = false
  set0 : ∀ {w : World} {g : Nat} {a0 a1 a2 a3 a4 v : Int}, w.heap[g]? = some (K ⟨a0, a1, a2, a3, a4⟩) → (w.setCell ⟨g, o, none⟩ (.int .u64 v)).heap[g]? = some (K ⟨v, a1, a2, a3, a4⟩)
  set1 : ∀ {w : World} {g : Nat} {a0 a1 a2 a3 a4 v : Int}, w.heap[g]? = some (K ⟨a0, a1, a2, a3, a4⟩) → (w.setCell ⟨g, o + 1, none⟩ (.int .u64 v)).heap[g]? = some (K ⟨a0, v, a2, a3, a4⟩)
  set2 : ∀ {w : World} {g : Nat} {a0 a1 a2 a3 a4 v : Int}, w.heap[g]? = some (K ⟨a0, a1, a2, a3, a4⟩) → (w.setCell ⟨g, o + 2, none⟩ (.int .u64 v)).heap[g]? = some (K ⟨a0, a1, v, a3, a4⟩)
  set3 : ∀ {w : World} {g : Nat} {a0 a1 a2 a3 a4 v : Int}, w.heap[g]? = some (K ⟨a0, a1, a2, a3, a4⟩) → (w.setCell ⟨g, o + 3, none⟩ (.int .u64 v)).heap[g]? = some (K ⟨a0, a1, a2, v, a4⟩)
  set4 : ∀ {w : World} {g : Nat} {a0 a1 a2 a3 a4 v : Int}, w.heap[g]? = some (K ⟨a0, a1, a2, a3, a4⟩) → (w.setCell ⟨g, o + 4, none⟩ (.int .u64 v)).heap[g]? = some (K ⟨a0, a1, a2, a3, v⟩)

/-- An element's own block; a block of one element; a point's two places. -/
def oneC (t : TypeId) (e : El) : Obj := .cells #[.int .u64 e.a0, .int .u64 e.a1, .int .u64 e.a2, .int .u64 e.a3, .int .u64 e.a4] t
def ptC (x z : El) : Obj := .cells #[.int .u64 x.a0, .int .u64 x.a1, .int .u64 x.a2, .int .u64 x.a3, .int .u64 x.a4, .int .u64 z.a0, .int .u64 z.a1, .int .u64 z.a2, .int .u64 z.a3, .int .u64 z.a4] 85

theorem pos_one (t : TypeId) : Pos 0 (oneC t) :=
  ⟨fun h => ⟨cell_blk h 0, cell_blk h 1, cell_blk h 2, cell_blk h 3, cell_blk h 4⟩, fun h i => frz_blk h i,
    fun h => heap_setCell_same h 0 _, fun h => heap_setCell_same h 1 _, fun h => heap_setCell_same h 2 _, fun h => heap_setCell_same h 3 _, fun h => heap_setCell_same h 4 _⟩
theorem pos_x (z : El) : Pos 0 (fun e => ptC e z) :=
  ⟨fun h => ⟨cell_blk h 0, cell_blk h 1, cell_blk h 2, cell_blk h 3, cell_blk h 4⟩, fun h i => frz_blk h i,
    fun h => heap_setCell_same h 0 _, fun h => heap_setCell_same h 1 _, fun h => heap_setCell_same h 2 _, fun h => heap_setCell_same h 3 _, fun h => heap_setCell_same h 4 _⟩
theorem pos_z (x : El) : Pos 5 (fun e => ptC x e) :=
  ⟨fun h => ⟨cell_blk h 5, cell_blk h 6, cell_blk h 7, cell_blk h 8, cell_blk h 9⟩, fun h i => frz_blk h i,
    fun h => heap_setCell_same h 5 _, fun h => heap_setCell_same h 6 _, fun h => heap_setCell_same h 7 _, fun h => heap_setCell_same h 8 _, fun h => heap_setCell_same h 9 _⟩

set_option maxHeartbeats 1600000 in
theorem carry_at {ox : Nat} {K : El → Obj} (P : Pos ox K) (w : World) (g : Nat) (e : El) (h : w.heap[g]? = some (K e)) (hb : e.below 9223372036854775808) :
    Calls Try.prog 81 #[.pointer (some ⟨g, ox, none⟩)] w fun r w' => r = .returned (.tuple #[]) ∧ w'.heap[g]? = some (K (carE e)) ∧ Touch (fun k => k = g) w w' := by
  obtain ⟨a0, a1, a2, a3, a4⟩ := e
  obtain ⟨h0, h1, h2, h3, h4⟩ := hb
  simp only [] at h0 h1 h2 h3 h4
  obtain ⟨c0, c1, c2, c3, c4⟩ := P.cells h
  simp only [] at c0 c1 c2 c3 c4
  have f0 := P.frz h ox
  have f1 := P.frz h (ox + 1)
  have f2 := P.frz h (ox + 2)
  have f3 := P.frz h (ox + 3)
  have f4 := P.frz h (ox + 4)
  have w1 := u64_in (a1 + a0 / 2251799813685248) (by omega)
  have w2 := u64_in (a2 + (a1 + a0 / 2251799813685248) / 2251799813685248) (by omega)
  have w3 := u64_in (a3 + (a2 + (a1 + a0 / 2251799813685248) / 2251799813685248) / 2251799813685248) (by omega)
  have w4 := u64_in (a4 + (a3 + (a2 + (a1 + a0 / 2251799813685248) / 2251799813685248) / 2251799813685248) / 2251799813685248) (by omega)
  have m0 := mask51 (a0) (by omega)
  have m1 := mask51 (a1 + a0 / 2251799813685248) (by omega)
  have m2 := mask51 (a2 + (a1 + a0 / 2251799813685248) / 2251799813685248) (by omega)
  have m3 := mask51 (a3 + (a2 + (a1 + a0 / 2251799813685248) / 2251799813685248) / 2251799813685248) (by omega)
  have m4 := mask51 (a4 + (a3 + (a2 + (a1 + a0 / 2251799813685248) / 2251799813685248) / 2251799813685248) / 2251799813685248) (by omega)
  have w5 := u64_in (19 * ((a4 + (a3 + (a2 + (a1 + a0 / 2251799813685248) / 2251799813685248) / 2251799813685248) / 2251799813685248) / 2251799813685248)) (by omega)
  have w6 := u64_in (a0 % 2251799813685248 + 19 * ((a4 + (a3 + (a2 + (a1 + a0 / 2251799813685248) / 2251799813685248) / 2251799813685248) / 2251799813685248) / 2251799813685248)) (by omega)
  have he : carE ⟨a0, a1, a2, a3, a4⟩ = ⟨a0 % 2251799813685248 + 19 * ((a4 + (a3 + (a2 + (a1 + a0 / 2251799813685248) / 2251799813685248) / 2251799813685248) / 2251799813685248) / 2251799813685248), (a1 + a0 / 2251799813685248) % 2251799813685248, (a2 + (a1 + a0 / 2251799813685248) / 2251799813685248) % 2251799813685248, (a3 + (a2 + (a1 + a0 / 2251799813685248) / 2251799813685248) / 2251799813685248) % 2251799813685248, (a4 + (a3 + (a2 + (a1 + a0 / 2251799813685248) / 2251799813685248) / 2251799813685248) / 2251799813685248) % 2251799813685248⟩ := rfl
  rw [he]
  clear he
  replace P := Lib.hid P
  replace h := Lib.hid h
  clear h0 h1 h2 h3 h4
  go_enter Try.func81, Try.ntmps81
  go_upto_region 0 with fail
  go_region
  go_wp2
  go_region
  go_wp2
  go_region
  go_wp2
  go_region
  go_wp2
  go_region
  go_wp2
  go_region
  go_wp2
  go_region
  go_wp2
  go_region
  go_wp2
  go_region
  go_wp2
  go_end0
  refine ⟨rfl, ?_, ?_⟩
  · simp only [drew_heap]
    exact (P.out.set4 (P.out.set3 (P.out.set2 (P.out.set1 (P.out.set0 (P.out.set4 (P.out.set3 (P.out.set2 (P.out.set1 h.out)))))))))
  · refine Touch.drew ?_
    refine Touch.drew ?_
    refine Touch.drew ?_
    refine Touch.drew ?_
    refine Touch.drew ?_
    refine Touch.drew ?_
    refine Touch.drew ?_
    refine Touch.drew ?_
    refine Touch.drew ?_
    refine touch_el ?_
    refine touch_el ?_
    refine touch_el ?_
    refine touch_el ?_
    refine touch_el ?_
    refine touch_el ?_
    refine touch_el ?_
    refine touch_el ?_
    refine touch_el ?_
    exact Touch.refl _ _


end Go.Proofs.Ytfnmnmjpcamkiaa
