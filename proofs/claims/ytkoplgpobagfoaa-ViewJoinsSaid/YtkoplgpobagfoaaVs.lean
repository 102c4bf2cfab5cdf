/-
  Layer 27: cmp.Compare, cmp.Or, the order of links, walked.
-/
import Derived.Test.YtkoplgpobagfoaaVf
import Derived.Test.YtkoplgpobagfoaaVq
namespace Go.Proofs.Ytkoplgpobagfoaa
open Go.RowKit
set_option linter.unusedVariables false
set_option linter.unusedSimpArgs false

def cmpI (x y : Int) : Int := if x < y then -1 else if y < x then 1 else 0
def orI (a b : Int) : Int := if a ≠ 0 then a else b
/-- By from, then by to. -/
def cmpFT (x y : Fr) : Int := orI (cmpI x.f y.f) (cmpI x.t y.t)

theorem nan_any (w : World) (n : Int) : Calls Try.prog 50 #[.int .i64 n] w fun r w' => r = .returned (.bool false) ∧ w' = w := by
  have e : (n != n) = false := by simp
  go_enter Try.func50, Try.ntmps50
  go_wp2
  go_ret
  exact ⟨rfl, rfl⟩

theorem cmp_any (w : World) (x y : Int) : Calls Try.prog 37 #[.int .i64 x, .int .i64 y] w fun r w' => r = .returned (.int .i64 (cmpI x y)) ∧ w' = w := by
  have hX := Lib.hid (fun w => nan_any w x)
  have hY := Lib.hid (fun w => nan_any w y)
  obtain ⟨c, hc⟩ : ∃ c, c = cmpI x y := ⟨_, rfl⟩
  rw [← hc]
  unfold cmpI at hc
  by_cases h1 : x < y
  · rw [if_pos h1] at hc
    subst hc
    go_enter Try.func37, Try.ntmps37
    go_wp2_with (first | (go_at_call_of 50 (Value.int IntKind.i64 x); refine (hX.out _).mono ?_; rintro r w2 ⟨rfl, rfl⟩) | (go_at_call_of 50 (Value.int IntKind.i64 y); refine (hY.out _).mono ?_; rintro r w2 ⟨rfl, rfl⟩))
    all_goals (go_ret; exact ⟨rfl, rfl⟩)
  · rw [if_neg h1] at hc
    by_cases h2 : y < x
    · rw [if_pos h2] at hc
      subst hc
      go_enter Try.func37, Try.ntmps37
      go_wp2_with (first | (go_at_call_of 50 (Value.int IntKind.i64 x); refine (hX.out _).mono ?_; rintro r w2 ⟨rfl, rfl⟩) | (go_at_call_of 50 (Value.int IntKind.i64 y); refine (hY.out _).mono ?_; rintro r w2 ⟨rfl, rfl⟩))
      all_goals (go_ret; exact ⟨rfl, rfl⟩)
    · rw [if_neg h2] at hc
      subst hc
      go_enter Try.func37, Try.ntmps37
      go_wp2_with (first | (go_at_call_of 50 (Value.int IntKind.i64 x); refine (hX.out _).mono ?_; rintro r w2 ⟨rfl, rfl⟩) | (go_at_call_of 50 (Value.int IntKind.i64 y); refine (hY.out _).mono ?_; rintro r w2 ⟨rfl, rfl⟩))
      all_goals (go_ret; exact ⟨rfl, rfl⟩)

set_option maxRecDepth 100000 in
theorem or_any (w : World) (g : Nat) (a b : Int) (c0 : w.cell? ⟨g, 0, none⟩ = some (.int .i64 a)) (c1 : w.cell? ⟨g, 1, none⟩ = some (.int .i64 b)) :
    Calls Try.prog 36 #[.slice (some ⟨g, 0, none⟩) 2 2] w fun r w' => r = .returned (.int .i64 (orI a b)) ∧ w' = w := by
  obtain ⟨c, hc⟩ : ∃ c, c = orI a b := ⟨_, rfl⟩
  rw [← hc]
  unfold orI at hc
  replace c0 := Lib.hid c0
  replace c1 := Lib.hid c1
  replace hc := Lib.hid hc
  go_enter Try.func36, Try.ntmps36
  go_wp2
  go_loopw [8] (fun iv wr => ∃ k : Nat, k ≤ 2 ∧ iv = .int .i64 (k : Int) ∧ wr = w ∧ (1 ≤ k → a = 0) ∧ (2 ≤ k → b = 0)) (fun iv _ => 2 - (intOf iv).toNat)
  case atStart => exact ⟨0, by omega, rfl, rfl, by omega, by omega⟩
  case round =>
    obtain ⟨k, hk, rfl, rfl, ha, hb⟩ := hrel
    by_cases k0 : k = 0
    · subst k0
      have d0 := c0.out
      by_cases h1 : a = 0
      · clear ha hb
        subst h1
        go_wp2
        exact ⟨⟨1, by omega, by first | rfl | trivial, by first | rfl | trivial, by intros; first | rfl | trivial, by first | omega | (intros; omega)⟩, by simp [intOf]⟩
      · have e1 : (a != 0) = true := by simp [h1]
        have e2 : (a == 0) = false := by simp [h1]
        have e3 : c = a := by rw [hc.out, if_pos h1]
        subst e3
        clear ha hb
        go_wp2
        go_ret
        exact ⟨rfl, rfl⟩
    · by_cases k1 : k = 1
      · subst k1
        have d1 := c1.out
        have ha0 : a = 0 := ha (by omega)
        have hcb : c = b := by rw [hc.out, if_neg (by simp [ha0])]
        clear ha hb
        by_cases h1 : b = 0
        · subst h1
          go_wp2
          exact ⟨⟨2, by omega, by first | rfl | trivial, by first | rfl | trivial, fun _ => ha0, by intros; first | rfl | trivial⟩, by simp [intOf]⟩
        · have e1 : (b != 0) = true := by simp [h1]
          have e2 : (b == 0) = false := by simp [h1]
          subst hcb
          go_wp2
          go_ret
          exact ⟨rfl, rfl⟩
      · obtain rfl : k = 2 := by omega
        have ha0 : a = 0 := ha (by omega)
        have hb0 : b = 0 := hb (by omega)
        have hcb : c = 0 := by rw [hc.out, if_neg (by simp [ha0]), hb0]
        subst hcb
        go_wp2
        go_ret
        exact ⟨rfl, rfl⟩

theorem cf37 (args : Array Value) (w : World) : (callFunc 37 args).run Try.prog w = .ok (.enter 37 args) w := by kernel_rfl
theorem cf36 (args : Array Value) (w : World) : (callFunc 36 args).run Try.prog w = .ok (.enter 36 args) w := by kernel_rfl
theorem cf35 (args : Array Value) (w : World) : (callFunc 35 args).run Try.prog w = .ok (.enter 35 args) w := by kernel_rfl

theorem run_box50 {a : Act} {w : World} {op : Oper} {x : Operand} {f : Fr} (ho : op.op = .box 50 x) (hx : a.eval x = frV f) : (execOp a.eval op).run Try.prog w = .ok (.value (.pointer (some ⟨w.heap.size, 0, none⟩))) (w.alloc (.cells (frCs f).toArray 50)) := by
  obtain ⟨fa, ff, ft, fl⟩ := f
  exact run_box ho hx (by kernel_rfl)
theorem run_f50 {a : Act} {w : World} {op : Oper} {x : Operand} {g : Nat} (k : Nat) (ho : op.op = .fieldAddr 50 x k) (hx : a.eval x = .pointer (some ⟨g, 0, none⟩)) (hk : k < 4) : (execOp a.eval op).run Try.prog w = .ok (.value (.pointer (some ⟨g, k, none⟩))) w := by
  have hc : k = 0 ∨ k = 1 ∨ k = 2 ∨ k = 3 := by omega
  rcases hc with rfl | rfl | rfl | rfl
  · exact run_field ho hx (by kernel_rfl)
  · exact run_field ho hx (by kernel_rfl)
  · exact run_field ho hx (by kernel_rfl)
  · exact run_field ho hx (by kernel_rfl)
theorem run_bs2 {a : Act} {w : World} {op : Oper} {x y : Operand} {m n : Int} (ho : op.op = .buildSlice 45 2 #[(0, x), (1, y)]) (hx : a.eval x = .int .i64 m) (hy : a.eval y = .int .i64 n) :
    (execOp a.eval op).run Try.prog w = .ok (.value (.slice (some ⟨w.heap.size, 0, none⟩) 2 2)) (w.alloc (.cells #[.int .i64 m, .int .i64 n] 3)) := by
  have h : (Instr.buildSlice 45 2 #[(0, .int .i64 m), (1, .int .i64 n)]).run Try.prog w = .ok (.slice (some ⟨w.heap.size, 0, none⟩) 2 2) (w.alloc (.cells #[.int .i64 m, .int .i64 n] 3)) := by kernel_rfl
  unfold execOp
  simp only [ho, List.map_toArray, List.map_cons, List.map_nil, hx, hy, Sem.run_bind, h, Result.andThen_ok, Sem.run_pure]

set_option maxRecDepth 100000 in
set_option maxHeartbeats 1600000 in
theorem less_links (w : World) (x y : Fr) : Calls Try.prog 35 #[frV x, frV y] w fun r w' => r = .returned (.int .i64 (cmpFT x y)) ∧ Touch Nothing w w' := by
  have h1 := heap_new w (.cells (frCs x).toArray 50)
  have h2 := heap_new (w.alloc (.cells (frCs x).toArray 50)) (.cells (frCs y).toArray 50)
  have h1' := ((Touch.refl Nothing (w.alloc (.cells (frCs x).toArray 50))).alloc (.cells (frCs y).toArray 50)).heap h1 (fun q => q)
  have tt := ((Touch.refl Nothing w).alloc (.cells (frCs x).toArray 50)).alloc (.cells (frCs y).toArray 50)
  have x1 := (cell_blk h1' 1).trans (show (frCs x).toArray[1]? = some (.int .i64 x.f) from rfl)
  have x2 := (cell_blk h1' 2).trans (show (frCs x).toArray[2]? = some (.int .i64 x.t) from rfl)
  have y1 := (cell_blk h2 1).trans (show (frCs y).toArray[1]? = some (.int .i64 y.f) from rfl)
  have y2 := (cell_blk h2 2).trans (show (frCs y).toArray[2]? = some (.int .i64 y.t) from rfl)
  clear h1 h1' h2
  go_enter Try.func35, Try.ntmps35
  go_upto_region 0 with fail
  refine wp_region_list ?_
  refine l_value rfl (run_box50 (f := x) rfl rfl) ?_
  simp only [Act.put, List.setIfInBounds_toArray, List.set_cons_zero, List.set_cons_succ]
  refine l_value rfl (run_box50 (f := y) rfl rfl) ?_
  simp only [Act.put, List.setIfInBounds_toArray, List.set_cons_zero, List.set_cons_succ]
  refine l_value rfl (run_asgn rfl rfl) ?_
  simp only [Act.put, List.setIfInBounds_toArray, List.set_cons_zero, List.set_cons_succ]
  refine wpList_nil ?_
  obtain ⟨W, eW⟩ : ∃ W, W = (w.alloc (.cells (frCs x).toArray 50)).alloc (.cells (frCs y).toArray 50) := ⟨_, rfl⟩
  rw [← eW] at x1 x2 y1 y2 tt ⊢
  obtain ⟨gx, egx⟩ : ∃ g, g = w.heap.size := ⟨_, rfl⟩
  obtain ⟨gy, egy⟩ : ∃ g, g = (w.alloc (.cells (frCs x).toArray 50)).heap.size := ⟨_, rfl⟩
  rw [← egy] at y1 y2 ⊢
  rw [← egx] at x1 x2 ⊢
  clear eW egx egy
  go_upto_region 1 with fail
  refine wp_region_held_drew (S := fun w' => Touch Nothing W w') (by kernel_rfl) ((Touch.refl Nothing W).drew) (fun tc => ?_)
  refine d_value (i := 0) rfl (by kernel_rfl) (by kernel_rfl) (by kernel_rfl) rfl (fun _ _ _ h => h) (fun w9 hS => run_f50 1 rfl rfl (by decide)) tc ?_
  simp only [Act.put, List.setIfInBounds_toArray, List.set_cons_zero, List.set_cons_succ]
  refine d_value (i := 1) rfl (by kernel_rfl) (by kernel_rfl) (by kernel_rfl) rfl (fun _ _ _ h => h) (fun w9 hS => run_load3 rfl rfl (hS.cell x1 (fun q => q))) tc ?_
  simp only [Act.put, List.setIfInBounds_toArray, List.set_cons_zero, List.set_cons_succ]
  refine d_value (i := 2) rfl (by kernel_rfl) (by kernel_rfl) (by kernel_rfl) rfl (fun _ _ _ h => h) (fun w9 hS => run_f50 1 rfl rfl (by decide)) tc ?_
  simp only [Act.put, List.setIfInBounds_toArray, List.set_cons_zero, List.set_cons_succ]
  refine d_value (i := 3) rfl (by kernel_rfl) (by kernel_rfl) (by kernel_rfl) rfl (fun _ _ _ h => h) (fun w9 hS => run_load3 rfl rfl (hS.cell y1 (fun q => q))) tc ?_
  simp only [Act.put, List.setIfInBounds_toArray, List.set_cons_zero, List.set_cons_succ]
  refine d_value (i := 5) rfl (by kernel_rfl) (by kernel_rfl) (by kernel_rfl) rfl (fun _ _ _ h => h) (fun w9 hS => run_f50 2 rfl rfl (by decide)) tc ?_
  simp only [Act.put, List.setIfInBounds_toArray, List.set_cons_zero, List.set_cons_succ]
  refine d_value (i := 6) rfl (by kernel_rfl) (by kernel_rfl) (by kernel_rfl) rfl (fun _ _ _ h => h) (fun w9 hS => run_load3 rfl rfl (hS.cell x2 (fun q => q))) tc ?_
  simp only [Act.put, List.setIfInBounds_toArray, List.set_cons_zero, List.set_cons_succ]
  refine d_value (i := 7) rfl (by kernel_rfl) (by kernel_rfl) (by kernel_rfl) rfl (fun _ _ _ h => h) (fun w9 hS => run_f50 2 rfl rfl (by decide)) tc ?_
  simp only [Act.put, List.setIfInBounds_toArray, List.set_cons_zero, List.set_cons_succ]
  refine d_value (i := 8) rfl (by kernel_rfl) (by kernel_rfl) (by kernel_rfl) rfl (fun _ _ _ h => h) (fun w9 hS => run_load3 rfl rfl (hS.cell y2 (fun q => q))) tc ?_
  simp only [Act.put, List.setIfInBounds_toArray, List.set_cons_zero, List.set_cons_succ]
  refine d_call (args := #[.int .i64 x.f, .int .i64 y.f]) (i := 4) (by kernel_rfl) rfl rfl cf37 rfl _ rfl #[] rfl rfl (cmp_any _ x.f y.f) (fun _ t => by first | exact tc.trans' t | (subst t; exact tc)) (fun wn4 tn => ?_)
  simp only [Act.put, List.setIfInBounds_toArray, List.set_cons_zero, List.set_cons_succ]
  obtain rfl := tn
  refine d_call (args := #[.int .i64 x.t, .int .i64 y.t]) (i := 9) (by kernel_rfl) rfl rfl cf37 rfl _ rfl #[] rfl rfl (cmp_any _ x.t y.t) (fun _ t => by first | exact tc.trans' t | (subst t; exact tc)) (fun wn9 tn => ?_)
  simp only [Act.put, List.setIfInBounds_toArray, List.set_cons_zero, List.set_cons_succ]
  obtain rfl := tn
  refine d_new (i := 10) (by kernel_rfl) rfl rfl (run_bs2 (m := cmpI x.f y.f) (n := cmpI x.t y.t) rfl rfl rfl) (tc.alloc _) ?_
  simp only [Act.put, List.setIfInBounds_toArray, List.set_cons_zero, List.set_cons_succ]
  have hb := heap_new W.drew (.cells #[.int .i64 (cmpI x.f y.f), .int .i64 (cmpI x.t y.t)] 3)
  have b0 := cell_blk hb 0
  have b1 := cell_blk hb 1
  replace tc := tc.alloc (.cells #[.int .i64 (cmpI x.f y.f), .int .i64 (cmpI x.t y.t)] 3)
  refine d_call (args := #[.slice (some ⟨W.drew.heap.size, 0, none⟩) 2 2]) (i := 11) (by kernel_rfl) rfl rfl cf36 rfl _ rfl #[] rfl rfl (or_any _ _ (cmpI x.f y.f) (cmpI x.t y.t) b0 b1) (fun _ t => by first | exact tc.trans' t | (subst t; exact tc)) (fun wn11 tn => ?_)
  simp only [Act.put, List.setIfInBounds_toArray, List.set_cons_zero, List.set_cons_succ]
  obtain rfl := tn
  refine d_value (i := 12) rfl (by kernel_rfl) (by kernel_rfl) (by kernel_rfl) rfl (fun _ _ _ h => h) (fun w9 hS => run_asgn rfl rfl) tc ?_
  simp only [Act.put, List.setIfInBounds_toArray, List.set_cons_zero, List.set_cons_succ]
  refine wpAnyH_done (by kernel_rfl) ?_ _
  have tend := Lib.hid (tt.trans' tc)
  clear tc tt b0 b1 hb x1 x2 y1 y2
  go_wp2
  go_ret
  exact ⟨rfl, tend.out⟩

end Go.Proofs.Ytkoplgpobagfoaa
