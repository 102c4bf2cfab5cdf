/-
  Layer 1: times, squared, walked.
-/
import Derived.Test.YtfnmnmjpcamkiaaTim
namespace Go.Proofs.Ytfnmnmjpcamkiaa
open Go.RowKit
set_option linter.unusedVariables false
set_option linter.unusedSimpArgs false

def zE : El := ⟨0, 0, 0, 0, 0⟩

theorem blk_cells {w : World} {g : Nat} {e : El} (h : w.heap[g]? = some (elC e)) : w.heap[g]? = some (.cells [Value.int .u64 e.a0, .int .u64 e.a1, .int .u64 e.a2, .int .u64 e.a3, .int .u64 e.a4].toArray 49 (0, 0)) := h

set_option maxRecDepth 100000 in
theorem times_any (w : World) (a b : El) (fa : a.Fine) (fb : b.Fine) :
    Calls Try.prog 64 #[elV a, elV b] w fun e w' => e = .returned (elV (timE a b)) ∧ Touch Nothing w w' := by
  have g0 : (((w.alloc (elC a)).alloc (elC b)).alloc (elC zE)).heap[w.heap.size]? = some (elC a) := by
    rw [Below.heap_alloc _ _ _ (by simp; omega), Below.heap_alloc _ _ _ (by simp)]; exact heap_alloc_new _ _
  have g1 : (((w.alloc (elC a)).alloc (elC b)).alloc (elC zE)).heap[w.heap.size + 1]? = some (elC b) := by
    rw [Below.heap_alloc _ _ _ (by simp)]
    have := heap_alloc_new (w.alloc (elC a)) (elC b)
    simpa using this
  have g2 : (((w.alloc (elC a)).alloc (elC b)).alloc (elC zE)).heap[w.heap.size + 1 + 1]? = some (elC zE) := by
    have := heap_alloc_new ((w.alloc (elC a)).alloc (elC b)) (elC zE)
    simpa using this
  have hT := Lib.hid (Times_any _ _ _ _ _ _ _ g2 g0 g1 fa fb)
  have hw := Lib.hid ((((Touch.refl Nothing w).alloc (elC a)).alloc (elC b)).alloc (elC zE))
  obtain ⟨t, ht⟩ : ∃ t, t = timE a b := ⟨_, rfl⟩
  rw [← ht] at hT ⊢
  clear g0 g1 g2 fa fb ht
  obtain ⟨a0, a1, a2, a3, a4⟩ := a
  obtain ⟨b0, b1, b2, b3, b4⟩ := b
  obtain ⟨t0, t1, t2, t3, t4⟩ := t
  unfold elV
  simp only []
  go_enter Try.func64, Try.ntmps64
  go_wp2_with (go_at_call 51; refine hT.out.mono ?_; rintro r w2 ⟨rfl, hh, ht2⟩; obtain ⟨c0, c1, c2, c3, c4⟩ := el_cells hh; have f0 := frz_blk hh 0; have f1 := frz_blk hh 1; have f2 := frz_blk hh 2; have f3 := frz_blk hh 3; have f4 := frz_blk hh 4; replace hh := Lib.hid hh)
  have hf := el_set4 (v := t4) (el_set3 (v := t3) (el_set2 (v := t2) (el_set1 (v := t1) (el_set0 (v := t0) hh.out))))
  have htt := touch_el (i := 4) (v := .int .u64 t4) (touch_el (i := 3) (v := .int .u64 t3) (touch_el (i := 2) (v := .int .u64 t2) (touch_el (i := 1) (v := .int .u64 t1) (touch_el (i := 0) (v := .int .u64 t0) ht2))))
  exact bodyPost_ret (v := .agg #[.int .u64 t0, .int .u64 t1, .int .u64 t2, .int .u64 t3, .int .u64 t4]) (ret_cell (P := Try.prog) rfl rfl (blk_cells hf) Try.underlying49 rfl (by kernel_rfl)) rfl
    ⟨rfl, hw.out.trans htt fun i hi q => by omega⟩

/-- Squared so many times. -/
def sqE (e : El) : Nat → El
  | 0 => e
  | k + 1 => timE (sqE e k) (sqE e k)

theorem sqE_fine {e : El} (h : e.Fine) : ∀ k, (sqE e k).Fine
  | 0 => h
  | k + 1 => timE_fine (sqE_fine h k) (sqE_fine h k)

set_option maxRecDepth 100000 in
set_option maxHeartbeats 1600000 in
theorem squared_any (w : World) (e : El) (fe : e.Fine) (n : Nat) (hn : n ≤ 1000000) :
    Calls Try.prog 75 #[elV e, .int .i64 (n : Int)] w fun r w' => r = .returned (elV (sqE e n)) ∧ Touch Nothing w w' := by
  have g0 : ((w.alloc (elC e)).alloc (elC zE)).heap[w.heap.size]? = some (elC e) := by
    rw [Below.heap_alloc _ _ _ (by simp)]; exact heap_alloc_new _ _
  have g1 : ((w.alloc (elC e)).alloc (elC zE)).heap[w.heap.size + 1]? = some (elC zE) := by
    have := heap_alloc_new (w.alloc (elC e)) (elC zE)
    simpa using this
  have hw := (((Touch.refl Nothing w).alloc (elC e)).alloc (elC zE)).mono (G := fun k => k = w.heap.size) fun k hk q => q.elim
  have hw0 := (((Touch.refl (fun k => k = w.heap.size) w).alloc (elC e)).alloc (elC zE))
  have ff := Lib.hid (sqE_fine fe)
  have q0 : sqE e 0 = e := rfl
  obtain ⟨sq, hsq⟩ : ∃ sq, sq = sqE e := ⟨_, rfl⟩
  rw [← hsq] at ff q0 ⊢
  have hstep := Lib.hid (show ∀ k, sq (k + 1) = timE (sq k) (sq k) from fun k => by rw [hsq]; rfl)
  replace hsq := Lib.hid hsq
  replace g0 := Lib.hid g0
  replace g1 := Lib.hid g1
  replace hw0 := Lib.hid hw0
  replace q0 := Lib.hid q0
  clear hw fe
  obtain ⟨e0, e1, e2, e3, e4⟩ := e
  have hin : elV ⟨e0, e1, e2, e3, e4⟩ = .agg #[.int .u64 e0, .int .u64 e1, .int .u64 e2, .int .u64 e3, .int .u64 e4] := rfl
  rw [hin]
  clear hin
  go_enter Try.func75, Try.ntmps75
  go_wp2
  go_loopw [6] (fun iv wr => ∃ k : Nat, k ≤ n ∧ iv = .int .i64 (k : Int) ∧ wr.heap[w.heap.size]? = some (elC (sq k)) ∧ wr.heap[w.heap.size + 1]? = some (elC zE) ∧ Touch Nothing w wr) (fun iv _ => n - (intOf iv).toNat)
  case atStart => exact ⟨0, Nat.zero_le _, rfl, by rw [q0.out]; exact g0.out, g1.out, ((Touch.refl Nothing w).alloc _).alloc _⟩
  case round =>
    obtain ⟨k, hk, rfl, hg0, hg1, ht⟩ := hrel
    by_cases hkn : k < n
    · have hT := Lib.hid (Times_any wr _ _ _ _ _ _ hg0 hg0 hg0 (ff.out k) (ff.out k))
      replace hg0 := Lib.hid hg0
      go_wp2_with (go_at_call 51; refine hT.out.mono ?_; rintro r w2 ⟨rfl, hh, ht2⟩)
      exact ⟨⟨k + 1, by omega, by simp, by rw [hstep.out]; exact hh, ht2.heap hg1 (by omega), ht.trans ht2 fun i hi q => by omega⟩, by simp [intOf]; omega⟩
    · obtain rfl : k = n := by omega
      obtain ⟨t0, t1, t2, t3, t4, htv⟩ : ∃ t0 t1 t2 t3 t4, sq k = ⟨t0, t1, t2, t3, t4⟩ := ⟨_, _, _, _, _, rfl⟩
      rw [htv] at hg0
      obtain ⟨c0, c1, c2, c3, c4⟩ := el_cells hg0
      have f0 := frz_blk hg1 0
      have f1 := frz_blk hg1 1
      have f2 := frz_blk hg1 2
      have f3 := frz_blk hg1 3
      have f4 := frz_blk hg1 4
      obtain ⟨z0, z1, z2, z3, z4⟩ := el_cells hg1
      simp only [] at c0 c1 c2 c3 c4
      replace htv := Lib.hid htv
      replace hg0 := Lib.hid hg0
      replace hg1 := Lib.hid hg1
      go_wp2
      have hf := el_set4 (v := t4) (el_set3 (v := t3) (el_set2 (v := t2) (el_set1 (v := t1) (el_set0 (v := t0) hg1.out))))
      have htt := touch_el (i := 4) (v := .int .u64 t4) (touch_el (i := 3) (v := .int .u64 t3) (touch_el (i := 2) (v := .int .u64 t2) (touch_el (i := 1) (v := .int .u64 t1) (touch_el (g := w.heap.size + 1) (i := 0) (v := .int .u64 t0) (Touch.refl _ wr)))))
      exact bodyPost_ret (v := .agg #[.int .u64 t0, .int .u64 t1, .int .u64 t2, .int .u64 t3, .int .u64 t4]) (ret_cell (P := Try.prog) rfl rfl (blk_cells hf) Try.underlying49 rfl (by kernel_rfl)) rfl
        ⟨by rw [htv.out]; rfl, ht.trans htt fun i hi q => by omega⟩

end Go.Proofs.Ytfnmnmjpcamkiaa
