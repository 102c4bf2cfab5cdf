/-
  Layer 1, the reference: P, less, even, walked.
-/
import Derived.Test.YtfnmnmjpcamkiaaNum
import Derived.Test.YtfnmnmjpcamkiaaGod
namespace Go.Proofs.Ytfnmnmjpcamkiaa
open Go.RowKit
set_option linter.unusedVariables false
set_option linter.unusedSimpArgs false

def numA (l : List Int) : Array Value := (l.map (Value.int .i64)).toArray
def numC (l : List Int) : Obj := .cells (numA l) 54
def numV (l : List Int) : Value := .agg (numA l)

theorem numA_cell (l : List Int) (i : Nat) (h : i < l.length) : (numA l)[i]? = some (.int .i64 (l.getD i 0)) := by
  simp [numA, List.getD_eq_getElem?_getD, h]

theorem numA_set (l : List Int) (i : Nat) (v : Int) : (numA l).setIfInBounds i (.int .i64 v) = numA (l.set i v) := by
  simp [numA, List.map_set]

/-- Ten digits, one by one. -/
theorem ten {l : List Int} (h : l.length = 10) : ∃ x0 x1 x2 x3 x4 x5 x6 x7 x8 x9, l = [x0, x1, x2, x3, x4, x5, x6, x7, x8, x9] := by
  match l, h with
  | [x0, x1, x2, x3, x4, x5, x6, x7, x8, x9], _ => exact ⟨_, _, _, _, _, _, _, _, _, _, rfl⟩

theorem num_cells {w : World} {g : Nat} {x0 x1 x2 x3 x4 x5 x6 x7 x8 x9 : Int} (h : w.heap[g]? = some (numC [x0, x1, x2, x3, x4, x5, x6, x7, x8, x9])) :
    w.cell? ⟨g, 0, none⟩ = some (.int .i64 x0) ∧ w.cell? ⟨g, 1, none⟩ = some (.int .i64 x1) ∧ w.cell? ⟨g, 2, none⟩ = some (.int .i64 x2) ∧ w.cell? ⟨g, 3, none⟩ = some (.int .i64 x3) ∧ w.cell? ⟨g, 4, none⟩ = some (.int .i64 x4) ∧
    w.cell? ⟨g, 5, none⟩ = some (.int .i64 x5) ∧ w.cell? ⟨g, 6, none⟩ = some (.int .i64 x6) ∧ w.cell? ⟨g, 7, none⟩ = some (.int .i64 x7) ∧ w.cell? ⟨g, 8, none⟩ = some (.int .i64 x8) ∧ w.cell? ⟨g, 9, none⟩ = some (.int .i64 x9) :=
  ⟨cell_blk h 0, cell_blk h 1, cell_blk h 2, cell_blk h 3, cell_blk h 4, cell_blk h 5, cell_blk h 6, cell_blk h 7, cell_blk h 8, cell_blk h 9⟩

def zeroN : List Int := [0, 0, 0, 0, 0, 0, 0, 0, 0, 0]
def PN : List Int := [67108845, 67108863, 67108863, 67108863, 67108863, 67108863, 67108863, 67108863, 67108863, 2097151]
theorem PN_val : nv PN = PP := by decide

def onesN (k : Nat) : List Int := List.replicate k 67108863 ++ List.replicate (10 - k) 0

theorem onesN_set (k : Nat) (h : k < 10) : (onesN k).set k 67108863 = onesN (k + 1) := by
  unfold onesN
  rw [List.set_append_right k _ (by simp), List.length_replicate, Nat.sub_self]
  have : 10 - k = (10 - (k + 1)) + 1 := by omega
  rw [this, List.replicate_succ, List.replicate_succ', List.append_assoc]
  rfl

theorem onesN_len (k : Nat) (h : k ≤ 10) : (onesN k).length = 10 := by simp [onesN]; omega

theorem nset0 {w : World} {g : Nat} {x0 x1 x2 x3 x4 x5 x6 x7 x8 x9 v : Int} (h : w.heap[g]? = some (numC [x0, x1, x2, x3, x4, x5, x6, x7, x8, x9])) : (w.setCell ⟨g, 0, none⟩ (.int .i64 v)).heap[g]? = some (numC [v, x1, x2, x3, x4, x5, x6, x7, x8, x9]) := heap_setCell_same h 0 _
theorem nset1 {w : World} {g : Nat} {x0 x1 x2 x3 x4 x5 x6 x7 x8 x9 v : Int} (h : w.heap[g]? = some (numC [x0, x1, x2, x3, x4, x5, x6, x7, x8, x9])) : (w.setCell ⟨g, 1, none⟩ (.int .i64 v)).heap[g]? = some (numC [x0, v, x2, x3, x4, x5, x6, x7, x8, x9]) := heap_setCell_same h 1 _
theorem nset2 {w : World} {g : Nat} {x0 x1 x2 x3 x4 x5 x6 x7 x8 x9 v : Int} (h : w.heap[g]? = some (numC [x0, x1, x2, x3, x4, x5, x6, x7, x8, x9])) : (w.setCell ⟨g, 2, none⟩ (.int .i64 v)).heap[g]? = some (numC [x0, x1, v, x3, x4, x5, x6, x7, x8, x9]) := heap_setCell_same h 2 _
theorem nset3 {w : World} {g : Nat} {x0 x1 x2 x3 x4 x5 x6 x7 x8 x9 v : Int} (h : w.heap[g]? = some (numC [x0, x1, x2, x3, x4, x5, x6, x7, x8, x9])) : (w.setCell ⟨g, 3, none⟩ (.int .i64 v)).heap[g]? = some (numC [x0, x1, x2, v, x4, x5, x6, x7, x8, x9]) := heap_setCell_same h 3 _
theorem nset4 {w : World} {g : Nat} {x0 x1 x2 x3 x4 x5 x6 x7 x8 x9 v : Int} (h : w.heap[g]? = some (numC [x0, x1, x2, x3, x4, x5, x6, x7, x8, x9])) : (w.setCell ⟨g, 4, none⟩ (.int .i64 v)).heap[g]? = some (numC [x0, x1, x2, x3, v, x5, x6, x7, x8, x9]) := heap_setCell_same h 4 _
theorem nset5 {w : World} {g : Nat} {x0 x1 x2 x3 x4 x5 x6 x7 x8 x9 v : Int} (h : w.heap[g]? = some (numC [x0, x1, x2, x3, x4, x5, x6, x7, x8, x9])) : (w.setCell ⟨g, 5, none⟩ (.int .i64 v)).heap[g]? = some (numC [x0, x1, x2, x3, x4, v, x6, x7, x8, x9]) := heap_setCell_same h 5 _
theorem nset6 {w : World} {g : Nat} {x0 x1 x2 x3 x4 x5 x6 x7 x8 x9 v : Int} (h : w.heap[g]? = some (numC [x0, x1, x2, x3, x4, x5, x6, x7, x8, x9])) : (w.setCell ⟨g, 6, none⟩ (.int .i64 v)).heap[g]? = some (numC [x0, x1, x2, x3, x4, x5, v, x7, x8, x9]) := heap_setCell_same h 6 _
theorem nset7 {w : World} {g : Nat} {x0 x1 x2 x3 x4 x5 x6 x7 x8 x9 v : Int} (h : w.heap[g]? = some (numC [x0, x1, x2, x3, x4, x5, x6, x7, x8, x9])) : (w.setCell ⟨g, 7, none⟩ (.int .i64 v)).heap[g]? = some (numC [x0, x1, x2, x3, x4, x5, x6, v, x8, x9]) := heap_setCell_same h 7 _
theorem nset8 {w : World} {g : Nat} {x0 x1 x2 x3 x4 x5 x6 x7 x8 x9 v : Int} (h : w.heap[g]? = some (numC [x0, x1, x2, x3, x4, x5, x6, x7, x8, x9])) : (w.setCell ⟨g, 8, none⟩ (.int .i64 v)).heap[g]? = some (numC [x0, x1, x2, x3, x4, x5, x6, x7, v, x9]) := heap_setCell_same h 8 _
theorem nset9 {w : World} {g : Nat} {x0 x1 x2 x3 x4 x5 x6 x7 x8 x9 v : Int} (h : w.heap[g]? = some (numC [x0, x1, x2, x3, x4, x5, x6, x7, x8, x9])) : (w.setCell ⟨g, 9, none⟩ (.int .i64 v)).heap[g]? = some (numC [x0, x1, x2, x3, x4, x5, x6, x7, x8, v]) := heap_setCell_same h 9 _

theorem set10 {w : World} {g : Nat} {z : List Int} {x0 x1 x2 x3 x4 x5 x6 x7 x8 x9 : Int} (hz : z.length = 10) (h : w.heap[g]? = some (numC z)) :
    ((((((((((w.setCell ⟨g, 0, none⟩ (.int .i64 x0)).setCell ⟨g, 1, none⟩ (.int .i64 x1)).setCell ⟨g, 2, none⟩ (.int .i64 x2)).setCell ⟨g, 3, none⟩ (.int .i64 x3)).setCell ⟨g, 4, none⟩ (.int .i64 x4)).setCell ⟨g, 5, none⟩ (.int .i64 x5)).setCell ⟨g, 6, none⟩ (.int .i64 x6)).setCell ⟨g, 7, none⟩ (.int .i64 x7)).setCell ⟨g, 8, none⟩ (.int .i64 x8)).setCell ⟨g, 9, none⟩ (.int .i64 x9)).heap[g]? = some (numC [x0, x1, x2, x3, x4, x5, x6, x7, x8, x9]) := by
  obtain ⟨z0, z1, z2, z3, z4, z5, z6, z7, z8, z9, rfl⟩ := ten hz
  exact nset9 (v := x9) (nset8 (v := x8) (nset7 (v := x7) (nset6 (v := x6) (nset5 (v := x5) (nset4 (v := x4) (nset3 (v := x3) (nset2 (v := x2) (nset1 (v := x1) (nset0 (v := x0) h)))))))))

theorem touch10 {w : World} {g : Nat} {v0 v1 v2 v3 v4 v5 v6 v7 v8 v9 : Value} :
    Touch (fun k => k = g) w ((((((((((w.setCell ⟨g, 0, none⟩ v0).setCell ⟨g, 1, none⟩ v1).setCell ⟨g, 2, none⟩ v2).setCell ⟨g, 3, none⟩ v3).setCell ⟨g, 4, none⟩ v4).setCell ⟨g, 5, none⟩ v5).setCell ⟨g, 6, none⟩ v6).setCell ⟨g, 7, none⟩ v7).setCell ⟨g, 8, none⟩ v8).setCell ⟨g, 9, none⟩ v9) :=
  touch_el1 (touch_el1 (touch_el1 (touch_el1 (touch_el1 (touch_el1 (touch_el1 (touch_el1 (touch_el1 (touch_el1 (Touch.refl _ w))))))))))

theorem numV_ten (x0 x1 x2 x3 x4 x5 x6 x7 x8 x9 : Int) : numV [x0, x1, x2, x3, x4, x5, x6, x7, x8, x9] = .agg #[.int .i64 x0, .int .i64 x1, .int .i64 x2, .int .i64 x3, .int .i64 x4, .int .i64 x5, .int .i64 x6, .int .i64 x7, .int .i64 x8, .int .i64 x9] := rfl

theorem blk_num {w : World} {g : Nat} {l : List Int} (h : w.heap[g]? = some (numC l)) : w.heap[g]? = some (.cells (l.map (Value.int .i64)).toArray 54 (0, 0)) := h

theorem info54 : (Try.prog.info? 54).map (·.size) = some 10 := by kernel_rfl

/-- A number of ten digits is handed back out of its block. -/
theorem ret_num {fn : Func} {p : Tmp} (h : fn.results = #[.cell p 54]) {tmps : Array Value} {w : World} {b : Nat} {l : List Int} (hl : l.length = 10)
    (hp : tmps.getD p undef = .pointer (some ⟨b, 0, none⟩)) (hb : w.heap[b]? = some (numC l)) : (results fn tmps).run Try.prog w = .ok (numV l) w := by
  have hi : (Try.prog.info? 54).map (·.size) = some (l.map (Value.int .i64)).length := by rw [List.length_map, hl]; exact info54
  have := ret_cell (P := Try.prog) (tmps := tmps) h hp (blk_num hb) Try.underlying54 rfl hi
  exact this

set_option maxRecDepth 100000 in
set_option maxHeartbeats 1600000 in
theorem P_any (w : World) : Calls Try.prog 61 #[] w fun r w' => r = .returned (numV PN) ∧ Touch Nothing w w' := by
  have hR0 : ((w.alloc (numC zeroN)).alloc (numC zeroN)).heap[w.heap.size]? = some (numC zeroN) := by
    rw [Below.heap_alloc _ _ _ (by simp)]; exact heap_alloc_new _ _
  have hB0 : ((w.alloc (numC zeroN)).alloc (numC zeroN)).heap[w.heap.size + 1]? = some (numC zeroN) := by
    have := heap_alloc_new (w.alloc (numC zeroN)) (numC zeroN)
    simpa using this
  replace hR0 := Lib.hid hR0
  replace hB0 := Lib.hid hB0
  go_enter Try.func61, Try.ntmps61
  go_wp2
  go_loopw [2] (fun iv wr => ∃ k : Nat, k ≤ 10 ∧ iv = .int .i64 (k : Int) ∧ wr.heap[w.heap.size]? = some (numC zeroN) ∧ wr.heap[w.heap.size + 1]? = some (numC (onesN k)) ∧ Touch Nothing w wr) (fun iv _ => 10 - (intOf iv).toNat)
  case atStart => exact ⟨0, by omega, rfl, hR0.out, hB0.out, ((Touch.refl _ _).alloc _).alloc _⟩
  case round =>
    obtain ⟨k, hk, rfl, hR, hB, ht⟩ := hrel
    by_cases hlt : k < 10
    · have hold := (cell_blk hB k).trans (numA_cell _ k (by rw [onesN_len k hk]; exact hlt))
      have hfz := frz_blk hB k
      have hlk : (0 : Int) ≤ (k : Int) := by omega
      replace hB := Lib.hid hB
      replace hR := Lib.hid hR
      go_wp2
      have hst := touch_el1 (i := k) (v := .int .i64 67108863) (Touch.refl (fun j => j = w.heap.size + 1) wr)
      refine ⟨⟨k + 1, by omega, by simp, hst.heap hR.out (by omega), ?_, ht.trans hst fun i hi q => by omega⟩, by simp [intOf]; omega⟩
      have := heap_setCell_same hB.out k (.int .i64 67108863)
      rw [this, numA_set, onesN_set k hlt]
      rfl
    · obtain rfl : k = 10 := by omega
      obtain ⟨c0, c1, c2, c3, c4, c5, c6, c7, c8, c9⟩ := num_cells (show wr.heap[w.heap.size + 1]? = some (numC [67108863, 67108863, 67108863, 67108863, 67108863, 67108863, 67108863, 67108863, 67108863, 67108863]) from hB)
      obtain ⟨d0, d1, d2, d3, d4, d5, d6, d7, d8, d9⟩ := num_cells (show wr.heap[w.heap.size]? = some (numC [0, 0, 0, 0, 0, 0, 0, 0, 0, 0]) from hR)
      have f0 := frz_blk hB 0
      have f9 := frz_blk hB 9
      have g0 := frz_blk hR 0
      have g1 := frz_blk hR 1
      have g2 := frz_blk hR 2
      have g3 := frz_blk hR 3
      have g4 := frz_blk hR 4
      have g5 := frz_blk hR 5
      have g6 := frz_blk hR 6
      have g7 := frz_blk hR 7
      have g8 := frz_blk hR 8
      have g9 := frz_blk hR 9
      replace hB := Lib.hid hB
      replace hR := Lib.hid hR
      go_wp2
      have ta := touch_el1 (i := 9) (v := .int .i64 2097151) (touch_el1 (i := 0) (v := .int .i64 67108845) (Touch.refl (fun j => j = w.heap.size + 1) wr))
      have hR2 := ta.heap hR.out (show ¬ w.heap.size = w.heap.size + 1 by omega)
      exact bodyPost_ret (v := numV PN) (ret_num rfl rfl rfl (set10 rfl hR2)) rfl ⟨rfl, (ht.trans ta fun i hi q => by omega).trans touch10 fun i hi q => by omega⟩

end Go.Proofs.Ytfnmnmjpcamkiaa
