/-
  Layer 1: least, walked.
-/
import Derived.Test.YtfnmnmjpcamkiaaTms
namespace Go.Proofs.Ytfnmnmjpcamkiaa
open Go.RowKit
set_option linter.unusedVariables false
set_option linter.unusedSimpArgs false

/-- 19 more, carried as far as limb i. -/
def incK (e : El) : Nat → El
  | 0 => ⟨e.a0 + 19, e.a1, e.a2, e.a3, e.a4⟩
  | 1 => ⟨(e.a0 + 19) % 2251799813685248, e.a1 + (e.a0 + 19) / 2251799813685248, e.a2, e.a3, e.a4⟩
  | 2 => ⟨(incE e).a0, (incE e).a1, e.a2 + (e.a1 + (e.a0 + 19) / 2251799813685248) / 2251799813685248, e.a3, e.a4⟩
  | 3 => ⟨(incE e).a0, (incE e).a1, (incE e).a2, e.a3 + (e.a2 + (e.a1 + (e.a0 + 19) / 2251799813685248) / 2251799813685248) / 2251799813685248, e.a4⟩
  | _ => incE e

theorem incK_below {f : El} (h : f.below 2251799813685248) (k : Nat) : (incK f k).below 4503599627370496 := by
  obtain ⟨h0, h1, h2, h3, h4⟩ := h
  unfold El.below
  match k with
  | 0 => simp only [incK]; omega
  | 1 => simp only [incK]; omega
  | 2 => simp only [incK, incE]; omega
  | 3 => simp only [incK, incE]; omega
  | _ + 4 => simp only [incK, incE]; omega

set_option maxRecDepth 100000 in
set_option maxHeartbeats 3200000 in
theorem least_any (w : World) (e : El) (hb : e.below 9223372036854775808) :
    Calls Try.prog 82 #[elV e] w fun r w' => r = .returned (elV (leaE e)) ∧ Touch Nothing w w' := by
  have g0 : ((w.alloc (elC e)).alloc (elC zE)).heap[w.heap.size]? = some (elC e) := by
    rw [Below.heap_alloc _ _ _ (by simp)]; exact heap_alloc_new _ _
  have g1 : ((w.alloc (elC e)).alloc (elC zE)).heap[w.heap.size + 1]? = some (elC zE) := by
    have := heap_alloc_new (w.alloc (elC e)) (elC zE)
    simpa using this
  have hw := ((Touch.refl Nothing w).alloc (elC e)).alloc (elC zE)
  have hc1 := Lib.hid (carry_any _ _ e g0 hb)
  have hf1 := carE_fine (e := e) (hb.mono (by decide))
  have hb1 : (carE e).below 9223372036854775808 := hf1.mono (by decide)
  have h2 := carE_two (e := e) (hb.mono (by decide))
  have hmod : (carE (carE e)).val % PP = e.val % PP := by rw [carE_mod, carE_mod]
  obtain ⟨f, hf⟩ : ∃ f, f = carE (carE e) := ⟨_, rfl⟩
  rw [← hf] at h2 hmod
  replace g0 := Lib.hid g0
  replace g1 := Lib.hid g1
  replace hw := Lib.hid hw
  replace hb1 := Lib.hid hb1
  replace hf := Lib.hid hf
  replace hmod := Lib.hid hmod
  replace h2 := Lib.hid h2
  clear hf1
  unfold leaE
  obtain ⟨v, hv⟩ : ∃ v, v = e.val % PP := ⟨_, rfl⟩
  rw [← hv]
  replace hv := Lib.hid hv
  clear hb
  obtain ⟨ce, hce⟩ : ∃ ce, ce = carE e := ⟨_, rfl⟩
  rw [← hce] at hc1 hb1
  replace hce := Lib.hid hce
  have hin : elV e = .agg #[.int .u64 e.a0, .int .u64 e.a1, .int .u64 e.a2, .int .u64 e.a3, .int .u64 e.a4] := rfl
  rw [hin]
  clear hin
  go_enter Try.func82, Try.ntmps82
  go_upto_region 2 with (go_at_call 81; refine hc1.out.mono ?_; rintro r w2 ⟨rfl, hh2, ht2⟩)
  go_upto_region 3 with (go_at_call 81; refine (carry_any _ _ _ hh2 hb1.out).mono ?_; rintro r w3 ⟨rfl, hh3, ht3⟩)
  have hX : w3.heap[w.heap.size]? = some (elC f) := by rw [hf.out, ← hce.out]; exact hh3
  have hR : w3.heap[w.heap.size + 1]? = some (elC zE) := ht3.heap (ht2.heap g1.out (by omega)) (by omega)
  have ht : Touch Nothing w w3 := (hw.out.trans ht2 fun i hi q => by omega).trans ht3 fun i hi q => by omega
  have hYX : w3.heap.size ≠ w.heap.size ∧ w3.heap.size ≠ w.heap.size + 1 := by have := lt_of_heap hX; have := lt_of_heap hR; omega
  clear hh2 hh3 ht2 ht3 hc1 g0 g1 hw
  obtain ⟨f0, f1, f2, f3, f4⟩ := f
  obtain ⟨⟨p0, r0⟩, ⟨p1, r1⟩, ⟨p2, r2⟩, ⟨p3, r3⟩, ⟨p4, r4⟩⟩ := h2.out
  simp only [] at p0 r0 p1 r1 p2 r2 p3 r3 p4 r4
  obtain ⟨c0, c1, c2, c3, c4⟩ := el_cells hX
  simp only [] at c0 c1 c2 c3 c4
  have wq := u64_in (f0 + 19) (by omega)
  replace hX := Lib.hid hX
  replace hR := Lib.hid hR
  go_wp2
  go_loopw [12] (fun iv wr => ∃ k : Nat, k ≤ 4 ∧ iv = .int .i64 (k : Int) ∧ wr.heap[w.heap.size]? = some (elC ⟨f0, f1, f2, f3, f4⟩) ∧ wr.heap[w.heap.size + 1]? = some (elC zE) ∧ wr.heap[w3.heap.size]? = some (elC (incK ⟨f0, f1, f2, f3, f4⟩ k)) ∧ Touch Nothing w wr) (fun iv _ => 4 - (intOf iv).toNat)
  case atStart => exact ⟨0, by omega, rfl, ((Touch.refl Nothing w3).alloc _).heap hX.out (fun q => q), ((Touch.refl Nothing w3).alloc _).heap hR.out (fun q => q), heap_alloc_new _ _, ht.alloc _⟩
  case round =>
    clear hX hR
    obtain ⟨k, hk, rfl, hX, hR, hY, htw⟩ := hrel
    have hbel := incK_below h2.out k
    by_cases hk4 : k < 4
    · obtain ⟨q0, q1, q2, q3, q4, hq⟩ : ∃ q0 q1 q2 q3 q4, incK ⟨f0, f1, f2, f3, f4⟩ k = ⟨q0, q1, q2, q3, q4⟩ := ⟨_, _, _, _, _, rfl⟩
      rw [hq] at hY hbel
      obtain ⟨⟨b00, b01⟩, ⟨b10, b11⟩, ⟨b20, b21⟩, ⟨b30, b31⟩, ⟨b40, b41⟩⟩ := hbel
      simp only [] at b00 b01 b10 b11 b20 b21 b30 b31 b40 b41
      obtain ⟨d0, d1, d2, d3, d4⟩ := el_cells hY
      simp only [] at d0 d1 d2 d3 d4
      have z0 := frz_blk hY 0
      have z1 := frz_blk hY 1
      have z2 := frz_blk hY 2
      have z3 := frz_blk hY 3
      have z4 := frz_blk hY 4
      have ekk : k = 0 ∨ k = 1 ∨ k = 2 ∨ k = 3 := by omega
      rcases ekk with e0 | e0 | e0 | e0
      · subst e0
        have w1 := u64_in (q1 + q0 / 2251799813685248) (by omega)
        have m1 := mask51 q0 (by omega)
        have he : incK ⟨f0, f1, f2, f3, f4⟩ (0 + 1) = ⟨q0 % 2251799813685248, q1 + q0 / 2251799813685248, q2, q3, q4⟩ := by
          simp only [incK, El.mk.injEq] at hq
          obtain ⟨rfl, rfl, rfl, rfl, rfl⟩ := hq
          rfl
        replace hq := Lib.hid hq
        go_upto_region 8 with fail
        go_region
        go_wp2
        have hY2 := el_set0 (v := q0 % 2251799813685248) (el_set1 (v := q1 + q0 / 2251799813685248) hY)
        rw [← he] at hY2
        have ht6 := (touch_el (i := 0) (v := .int .u64 (q0 % 2251799813685248)) (touch_el (g := w3.heap.size) (i := 1) (v := .int .u64 (q1 + q0 / 2251799813685248)) (Touch.refl _ wr))).drew
        have hsz := ht.size
        exact ⟨⟨1, by omega, by simp, ht6.heap hX (by omega), ht6.heap hR (by omega), hY2, htw.trans ht6 fun i hi q => by omega⟩, by simp [intOf]⟩
      · subst e0
        have w1 := u64_in (q2 + q1 / 2251799813685248) (by omega)
        have m1 := mask51 q1 (by omega)
        have he : incK ⟨f0, f1, f2, f3, f4⟩ (1 + 1) = ⟨q0, q1 % 2251799813685248, q2 + q1 / 2251799813685248, q3, q4⟩ := by
          simp only [incK, El.mk.injEq] at hq
          obtain ⟨rfl, rfl, rfl, rfl, rfl⟩ := hq
          rfl
        replace hq := Lib.hid hq
        go_upto_region 8 with fail
        go_region
        go_wp2
        have hY2 := el_set1 (v := q1 % 2251799813685248) (el_set2 (v := q2 + q1 / 2251799813685248) hY)
        rw [← he] at hY2
        have ht6 := (touch_el (i := 1) (v := .int .u64 (q1 % 2251799813685248)) (touch_el (g := w3.heap.size) (i := 2) (v := .int .u64 (q2 + q1 / 2251799813685248)) (Touch.refl _ wr))).drew
        have hsz := ht.size
        exact ⟨⟨2, by omega, by simp, ht6.heap hX (by omega), ht6.heap hR (by omega), hY2, htw.trans ht6 fun i hi q => by omega⟩, by simp [intOf]⟩
      · subst e0
        have w1 := u64_in (q3 + q2 / 2251799813685248) (by omega)
        have m1 := mask51 q2 (by omega)
        have he : incK ⟨f0, f1, f2, f3, f4⟩ (2 + 1) = ⟨q0, q1, q2 % 2251799813685248, q3 + q2 / 2251799813685248, q4⟩ := by
          simp only [incK, El.mk.injEq] at hq
          obtain ⟨rfl, rfl, rfl, rfl, rfl⟩ := hq
          rfl
        replace hq := Lib.hid hq
        go_upto_region 8 with fail
        go_region
        go_wp2
        have hY2 := el_set2 (v := q2 % 2251799813685248) (el_set3 (v := q3 + q2 / 2251799813685248) hY)
        rw [← he] at hY2
        have ht6 := (touch_el (i := 2) (v := .int .u64 (q2 % 2251799813685248)) (touch_el (g := w3.heap.size) (i := 3) (v := .int .u64 (q3 + q2 / 2251799813685248)) (Touch.refl _ wr))).drew
        have hsz := ht.size
        exact ⟨⟨3, by omega, by simp, ht6.heap hX (by omega), ht6.heap hR (by omega), hY2, htw.trans ht6 fun i hi q => by omega⟩, by simp [intOf]⟩
      · subst e0
        have w1 := u64_in (q4 + q3 / 2251799813685248) (by omega)
        have m1 := mask51 q3 (by omega)
        have he : incK ⟨f0, f1, f2, f3, f4⟩ (3 + 1) = ⟨q0, q1, q2, q3 % 2251799813685248, q4 + q3 / 2251799813685248⟩ := by
          simp only [incK, El.mk.injEq] at hq
          obtain ⟨rfl, rfl, rfl, rfl, rfl⟩ := hq
          rfl
        replace hq := Lib.hid hq
        go_upto_region 8 with fail
        go_region
        go_wp2
        have hY2 := el_set3 (v := q3 % 2251799813685248) (el_set4 (v := q4 + q3 / 2251799813685248) hY)
        rw [← he] at hY2
        have ht6 := (touch_el (i := 3) (v := .int .u64 (q3 % 2251799813685248)) (touch_el (g := w3.heap.size) (i := 4) (v := .int .u64 (q4 + q3 / 2251799813685248)) (Touch.refl _ wr))).drew
        have hsz := ht.size
        exact ⟨⟨4, by omega, by simp, ht6.heap hX (by omega), ht6.heap hR (by omega), hY2, htw.trans ht6 fun i hi q => by omega⟩, by simp [intOf]⟩
    · obtain rfl : k = 4 := by omega
      have hqe : incK ⟨f0, f1, f2, f3, f4⟩ 4 = incE ⟨f0, f1, f2, f3, f4⟩ := rfl
      rw [hqe] at hY hbel
      have ls := least_stay h2.out
      have lt := least_turn h2.out
      obtain ⟨q0, q1, q2, q3, q4, hq⟩ : ∃ q0 q1 q2 q3 q4, incE ⟨f0, f1, f2, f3, f4⟩ = ⟨q0, q1, q2, q3, q4⟩ := ⟨_, _, _, _, _, rfl⟩
      rw [hq] at hY hbel ls lt
      simp only [] at ls lt
      rw [hmod.out, ← hv.out] at ls lt
      obtain ⟨⟨b00, b01⟩, ⟨b10, b11⟩, ⟨b20, b21⟩, ⟨b30, b31⟩, ⟨b40, b41⟩⟩ := hbel
      simp only [] at b00 b01 b10 b11 b20 b21 b30 b31 b40 b41
      obtain ⟨d0, d1, d2, d3, d4⟩ := el_cells hY
      obtain ⟨x0, x1, x2, x3, x4⟩ := el_cells hX
      obtain ⟨y0, y1, y2, y3, y4⟩ := el_cells hR
      simp only [] at d0 d1 d2 d3 d4 x0 x1 x2 x3 x4
      have z4 := frz_blk hY 4
      have s0 := frz_blk hR 0
      have s1 := frz_blk hR 1
      have s2 := frz_blk hR 2
      have s3 := frz_blk hR 3
      have s4 := frz_blk hR 4
      have m4 := mask51 q4 (by omega)
      have hsz := ht.size
      by_cases hs : q4 / 2251799813685248 = 0
      · have ls := ls hs
        have hsb : (q4 / 2251799813685248 == 0) = true := by simp [hs]
        replace hs := Lib.hid hs
        replace ls := Lib.hid ls
        replace lt := Lib.hid lt
        replace hq := Lib.hid hq
        go_wp2
        have hf2 := el_set4 (v := f4) (el_set3 (v := f3) (el_set2 (v := f2) (el_set1 (v := f1) (el_set0 (v := f0) hR))))
        have htt := touch_el (i := 4) (v := .int .u64 f4) (touch_el (i := 3) (v := .int .u64 f3) (touch_el (i := 2) (v := .int .u64 f2) (touch_el (i := 1) (v := .int .u64 f1) (touch_el (g := w.heap.size + 1) (i := 0) (v := .int .u64 f0) (Touch.refl _ wr)))))
        exact bodyPost_ret (v := .agg #[.int .u64 f0, .int .u64 f1, .int .u64 f2, .int .u64 f3, .int .u64 f4]) (ret_cell (P := Try.prog) rfl rfl (blk_cells hf2) Try.underlying49 rfl (by kernel_rfl)) rfl
          ⟨by rw [← ls.out]; rfl, htw.trans htt fun i hi q => by omega⟩
      · have lt := lt hs
        have hsb : (q4 / 2251799813685248 == 0) = false := by simp [hs]
        replace hs := Lib.hid hs
        replace ls := Lib.hid ls
        replace lt := Lib.hid lt
        replace hq := Lib.hid hq
        go_wp2
        have ty := touch_el (g := w3.heap.size) (i := 4) (v := .int .u64 (q4 % 2251799813685248)) (Touch.refl _ wr)
        have hRy := ty.heap hR (show ¬ w.heap.size + 1 = w3.heap.size by omega)
        have hf2 := el_set4 (v := q4 % 2251799813685248) (el_set3 (v := q3) (el_set2 (v := q2) (el_set1 (v := q1) (el_set0 (v := q0) hRy))))
        have htt := touch_el (i := 4) (v := .int .u64 (q4 % 2251799813685248)) (touch_el (i := 3) (v := .int .u64 q3) (touch_el (i := 2) (v := .int .u64 q2) (touch_el (i := 1) (v := .int .u64 q1) (touch_el (g := w.heap.size + 1) (i := 0) (v := .int .u64 q0) (Touch.refl _ (wr.setCell ⟨w3.heap.size, 4, none⟩ (.int .u64 (q4 % 2251799813685248))))))))
        exact bodyPost_ret (v := .agg #[.int .u64 q0, .int .u64 q1, .int .u64 q2, .int .u64 q3, .int .u64 (q4 % 2251799813685248)]) (ret_cell (P := Try.prog) rfl rfl (blk_cells hf2) Try.underlying49 rfl (by kernel_rfl)) rfl
          ⟨by rw [← lt.out]; rfl, (htw.trans ty fun i hi q => by omega).trans htt fun i hi q => by omega⟩

end Go.Proofs.Ytfnmnmjpcamkiaa
