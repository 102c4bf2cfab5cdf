/-
  Layer 27: the chapter's example: works, walked.
-/
import Derived.Test.YtkoplgpobagfoaaVy
import Derived.Test.YtkoplgpobagfoaaVz
namespace Go.Proofs.Ytkoplgpobagfoaa
open Go.RowKit
set_option linter.unusedVariables false
set_option linter.unusedSimpArgs false

theorem hu29 : Try.prog.underlying 29 = some (.struct (Try.prog.fieldsOf 29)) := by kernel_rfl
theorem hs29 : Try.prog.stoodInHeld 29 = false := by kernel_rfl
theorem hg29 : Try.prog.eqGuardType Try.prog.depth 29 = false := by kernel_rfl
theorem hf29 : (Try.prog.fieldsOf 29).toList = [{ name := "From", type := 3, offset := 0, embedded := false, tag := "", pkgPath := "", byteOffset := 0 },
        { name := "To", type := 3, offset := 1, embedded := false, tag := "", pkgPath := "", byteOffset := 8 },
        { name := "Many", type := 3, offset := 2, embedded := false, tag := "", pkgPath := "", byteOffset := 16 },
        { name := "Bytes", type := 3, offset := 3, embedded := false, tag := "", pkgPath := "", byteOffset := 24 }] := by kernel_rfl

theorem run_eq29 (w : World) (x y : Fr) : (Op.equalIn 10000 29 (frV x) (frV y)).run Try.prog w = .ok (decide (x = y)) w := by
  unfold frV
  rw [run_equalIn_agg w 9999 29 _ _ hu29 hs29, hf29]
  obtain ⟨xa, xf, xt, xl⟩ := x
  obtain ⟨ya, yf, yt, yl⟩ := y
  have p0 : ∀ (v : World) (a b c d : Int), (part 3 #[Value.int .i64 a, .int .i64 b, .int .i64 c, .int .i64 d] 0).run Try.prog v = .ok (.int .i64 a) v := by intro v a b c d; kernel_rfl
  have p1 : ∀ (v : World) (a b c d : Int), (part 3 #[Value.int .i64 a, .int .i64 b, .int .i64 c, .int .i64 d] 1).run Try.prog v = .ok (.int .i64 b) v := by intro v a b c d; kernel_rfl
  have p2 : ∀ (v : World) (a b c d : Int), (part 3 #[Value.int .i64 a, .int .i64 b, .int .i64 c, .int .i64 d] 2).run Try.prog v = .ok (.int .i64 c) v := by intro v a b c d; kernel_rfl
  have p3 : ∀ (v : World) (a b c d : Int), (part 3 #[Value.int .i64 a, .int .i64 b, .int .i64 c, .int .i64 d] 3).run Try.prog v = .ok (.int .i64 d) v := by intro v a b c d; kernel_rfl
  have q : ∀ (v : World) (a b : Int), (Op.equalIn 9999 3 (.int .i64 a) (.int .i64 b)).run Try.prog v = .ok (a == b) v := fun v a b => run_equalIn_int v 9998 3 .i64 .i64 a b Try.underlying3
  simp only [Op.eqFields]
  rw [if_pos (by decide), if_pos (by decide), if_pos (by decide), if_pos (by decide)]
  simp only [Sem.run_bind, p0, p1, p2, p3, q, Result.andThen_ok, Sem.run_ite, Sem.run_pure]
  by_cases h0 : xa = ya <;> by_cases h1 : xf = yf <;> by_cases h2 : xt = yt <;> by_cases h3 : xl = yl <;> simp [h0, h1, h2, h3]

theorem run_eqK (w : World) (x y : Fr) : (binOp .eql 29 (frV x) (frV y)).run Try.prog w = .ok (.bool (decide (x = y))) w := by
  have := run_eql_struct (P := Try.prog) w 29 #[.int .i64 x.a, .int .i64 x.f, .int .i64 x.t, .int .i64 x.l] #[.int .i64 y.a, .int .i64 y.f, .int .i64 y.t, .int .i64 y.l]
  unfold frV
  rw [this]
  have h := run_eq29 w x y
  unfold frV at h
  rw [h]
  rfl
theorem run_gK (w : World) (op : BinOp) (a b : Operand) (x y : Fr) : (eqGuard op 29 a b (frV x) (frV y)).run Try.prog w = .ok () w := run_eqGuard_agg w op 29 a b _ _ hg29

def ex3 : List Fr := [⟨1, 0, 2, 505⟩, ⟨1, 2, 0, 38⟩, ⟨3, 0, 2, 505⟩]
theorem ex3_links : linksR ex3 = ([⟨0, 2, 2, 1010⟩, ⟨2, 0, 1, 38⟩], 0) := by decide +kernel
theorem ex3_rates : ratesR ex3 0 2 2 = ([1, 1], 0) := by decide +kernel

set_option maxRecDepth 100000 in
set_option maxHeartbeats 3200000 in
theorem works_any (w : World) : Calls Try.prog 17 #[] w fun r w' => r = .returned (.bool true) ∧ Touch Nothing w w' := by
  have hn := heap_new w (.cells #[.int .i64 1, .int .i64 0, .int .i64 2, .int .i64 505, .int .i64 1, .int .i64 2, .int .i64 0, .int .i64 38, .int .i64 3, .int .i64 0, .int .i64 2, .int .i64 505] 50)
  have hR : RowF (w.alloc (.cells #[.int .i64 1, .int .i64 0, .int .i64 2, .int .i64 505, .int .i64 1, .int .i64 2, .int .i64 0, .int .i64 38, .int .i64 3, .int .i64 0, .int .i64 2, .int .i64 505] 50)) w.heap.size ex3 := ⟨[], hn⟩
  have t0 := (Touch.refl Nothing w).alloc (.cells #[.int .i64 1, .int .i64 0, .int .i64 2, .int .i64 505, .int .i64 1, .int .i64 2, .int .i64 0, .int .i64 38, .int .i64 3, .int .i64 0, .int .i64 2, .int .i64 505] 50)
  obtain ⟨W, eW⟩ : ∃ W, W = w.alloc (.cells #[.int .i64 1, .int .i64 0, .int .i64 2, .int .i64 505, .int .i64 1, .int .i64 2, .int .i64 0, .int .i64 38, .int .i64 3, .int .i64 0, .int .i64 2, .int .i64 505] 50) := ⟨_, rfl⟩
  rw [← eW] at hR t0
  have hsl : FrSl W (some ⟨w.heap.size, 0, none⟩) 3 ex3 := hR.sl (by decide)
  have hA : FrA W (.slice (some ⟨w.heap.size, 0, none⟩) 3 3) ex3 := .inr ⟨_, 3, rfl, hsl⟩
  have hL := Links_any W _ ex3 hA (sorts_small 35 cmpFT cf35 (fun w x y => less_links w x y) ex3 (by decide)) (by decide)
  rw [ex3_links] at hL
  have hRt := fun w' (t : Touch Nothing W w') => Rates_any w' (some ⟨w.heap.size, 0, none⟩) 3 ex3 (hsl.keep t (fun _ _ q => q)) 0 2 2
  rw [ex3_rates] at hRt
  have k1 := fun w => run_eqK w ⟨0, 2, 2, 1010⟩ ⟨0, 2, 2, 1010⟩
  have k2 := fun w => run_eqK w ⟨2, 0, 1, 38⟩ ⟨2, 0, 1, 38⟩
  have g1 := fun w => run_gK w .eql (.tmp 30) (.tmp 31) ⟨0, 2, 2, 1010⟩ ⟨0, 2, 2, 1010⟩
  have g2 := fun w => run_gK w .eql (.tmp 37) (.tmp 38) ⟨2, 0, 1, 38⟩ ⟨2, 0, 1, 38⟩
  rw [decide_eq_true rfl] at k1 k2
  unfold frV at k1 k2 g1 g2
  simp only [] at k1 k2 g1 g2
  replace hL := Lib.hid hL
  replace hRt := Lib.hid hRt
  replace t0 := Lib.hid t0
  clear hn hR hsl hA
  go_enter Try.func17, Try.ntmps17
  go_upto_region 2 with fail
  rw [← eW]
  replace eW := Lib.hid eW
  go_upto_region 4 with (first | (go_at_call 12; refine hL.out.mono ?_; rintro r w1 ⟨v1, rfl, hK1, t1⟩) | (go_at_call 27; refine (hRt.out _ t1).mono ?_; rintro r w2 ⟨v2, rfl, hK2, t2⟩))
  replace hK1 := hK1.keep t2
  rcases hK1 with ⟨_, h⟩ | ⟨gk, ck, rfl, hR1, _, _, _⟩
  · cases h
  rcases hK2 with ⟨_, h⟩ | ⟨gr, rfl, hR2, _⟩
  · cases h
  have a0 := hR1.cell 0 0 (by decide) (by decide)
  have a1 := hR1.cell 0 1 (by decide) (by decide)
  have a2 := hR1.cell 0 2 (by decide) (by decide)
  have a3 := hR1.cell 0 3 (by decide) (by decide)
  have b0 := hR1.cell 1 0 (by decide) (by decide)
  have b1 := hR1.cell 1 1 (by decide) (by decide)
  have b2 := hR1.cell 1 2 (by decide) (by decide)
  have b3 := hR1.cell 1 3 (by decide) (by decide)
  have c0 := hR2.cell 0 (by decide)
  have c1 := hR2.cell 1 (by decide)
  replace a0 : w2.cell? ⟨gk, 0, none⟩ = some (.int .i64 0) := a0
  replace a1 : w2.cell? ⟨gk, 1, none⟩ = some (.int .i64 2) := a1
  replace a2 : w2.cell? ⟨gk, 2, none⟩ = some (.int .i64 2) := a2
  replace a3 : w2.cell? ⟨gk, 3, none⟩ = some (.int .i64 1010) := a3
  replace b0 : w2.cell? ⟨gk, 4, none⟩ = some (.int .i64 2) := b0
  replace b1 : w2.cell? ⟨gk, 5, none⟩ = some (.int .i64 0) := b1
  replace b2 : w2.cell? ⟨gk, 6, none⟩ = some (.int .i64 1) := b2
  replace b3 : w2.cell? ⟨gk, 7, none⟩ = some (.int .i64 38) := b3
  replace c0 : w2.cell? ⟨gr, 0, none⟩ = some (.int .i64 1) := c0
  replace c1 : w2.cell? ⟨gr, 1, none⟩ = some (.int .i64 1) := c1
  have tend := Lib.hid ((t0.out.trans' t1).trans' t2)
  clear hR1 hR2 t1 t2 hL hRt
  have n2 : [(⟨0, 2, 2, 1010⟩ : Fr), ⟨2, 0, 1, 38⟩].length = 2 := rfl
  have n3 : [(1 : Int), 1].length = 2 := rfl
  simp only [n2, n3]
  clear n2 n3
  go_wp2
  go_ret
  exact ⟨rfl, tend.out⟩

end Go.Proofs.Ytkoplgpobagfoaa
