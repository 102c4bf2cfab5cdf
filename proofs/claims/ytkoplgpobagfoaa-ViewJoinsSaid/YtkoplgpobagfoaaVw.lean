/-
  Layer 27: a frame's ends, and their comparison.
-/
import Derived.Test.YtkoplgpobagfoaaVv
import Derived.ChangeKeysEq
namespace Go.Proofs.Ytkoplgpobagfoaa
open Go.RowKit
set_option linter.unusedVariables false
set_option linter.unusedSimpArgs false

theorem hg65 : Try.prog.eqGuardType Try.prog.depth 65 = false := by kernel_rfl
theorem c3one : Try.prog.cellsOf 3 = 1 := by kernel_rfl

theorem run_eq65 (w : World) (a b c d : Int) : (Op.equalIn 10000 65 (.agg #[.int .i64 a, .int .i64 b]) (.agg #[.int .i64 c, .int .i64 d])).run Try.prog w = .ok (decide (a = c ∧ b = d)) w := by
  have hi : (Try.prog.info? 3).isSome = true := by kernel_rfl
  obtain ⟨i, hi⟩ := Option.isSome_iff_exists.1 hi
  have hu : Try.prog.underlying 65 = some (.array 2 3) := by kernel_rfl
  rw [run_equalIn_array w 9999 _ _ hu hi, c3one]
  have p0 : ∀ (v : World) (a b : Int), (part 3 #[Value.int .i64 a, .int .i64 b] (0 * 1)).run Try.prog v = .ok (.int .i64 a) v := by intro v a b; kernel_rfl
  have p1 : ∀ (v : World) (a b : Int), (part 3 #[Value.int .i64 a, .int .i64 b] (1 * 1)).run Try.prog v = .ok (.int .i64 b) v := by intro v a b; kernel_rfl
  have q : ∀ (v : World) (a b : Int), (Op.equalIn 9999 3 (.int .i64 a) (.int .i64 b)).run Try.prog v = .ok (a == b) v := fun v a b => run_equalIn_int v 9998 3 .i64 .i64 a b Try.underlying3
  have hr : List.range 2 = [0, 1] := by decide
  rw [hr]
  simp only [Op.eqItems, Sem.run_bind, p0, p1, q, Result.andThen_ok, Sem.run_ite, Sem.run_pure]
  by_cases h0 : a = c <;> by_cases h1 : b = d <;> simp [h0, h1]

theorem run_neL (w : World) (a b c d : Int) : (binOp .neq 65 (.agg #[.int .i64 a, .int .i64 b]) (.agg #[.int .i64 c, .int .i64 d])).run Try.prog w = .ok (.bool (!decide (a = c ∧ b = d))) w := by
  rw [run_neq_struct (P := Try.prog) w 65, run_eq65]
  rfl
theorem run_eqL (w : World) (a b c d : Int) : (binOp .eql 65 (.agg #[.int .i64 a, .int .i64 b]) (.agg #[.int .i64 c, .int .i64 d])).run Try.prog w = .ok (.bool (decide (a = c ∧ b = d))) w := by
  rw [run_eql_struct (P := Try.prog) w 65, run_eq65]
  rfl
theorem run_gL (w : World) (op : BinOp) (x y : Operand) (a b c d : Int) : (eqGuard op 65 x y (.agg #[.int .i64 a, .int .i64 b]) (.agg #[.int .i64 c, .int .i64 d])).run Try.prog w = .ok () w := run_eqGuard_agg w op 65 x y _ _ hg65

theorem info65 : (Try.prog.info? 65).map (·.size) = some 2 := by kernel_rfl

set_option maxRecDepth 100000 in
theorem link_any (w : World) (x : Fr) : Calls Try.prog 38 #[frV x] w fun r w' => r = .returned (.agg #[.int .i64 x.f, .int .i64 x.t]) ∧ Touch Nothing w w' := by
  obtain ⟨xa, xf, xt, xl⟩ := x
  have e : frV ⟨xa, xf, xt, xl⟩ = .agg #[.int .i64 xa, .int .i64 xf, .int .i64 xt, .int .i64 xl] := rfl
  rw [e]
  simp only []
  have hn : ((w.alloc (.cells #[.int .i64 xa, .int .i64 xf, .int .i64 xt, .int .i64 xl] 50)).alloc (.cells #[.int .i64 xf, .int .i64 xt] 65)).heap[w.heap.size + 1]? = some (.cells [Value.int .i64 xf, .int .i64 xt].toArray 65 (0, 0)) := by
    have := heap_new (w.alloc (.cells #[.int .i64 xa, .int .i64 xf, .int .i64 xt, .int .i64 xl] 50)) (.cells #[.int .i64 xf, .int .i64 xt] 65)
    simpa using this
  have t1 := ((Touch.refl Nothing w).alloc (.cells #[.int .i64 xa, .int .i64 xf, .int .i64 xt, .int .i64 xl] 50)).alloc (.cells #[.int .i64 xf, .int .i64 xt] 65)
  replace hn := Lib.hid hn
  replace t1 := Lib.hid t1
  clear e
  go_enter Try.func38, Try.ntmps38
  go_wp2
  exact bodyPost_ret (v := .agg #[.int .i64 xf, .int .i64 xt]) (ret_cell (cs := [.int .i64 xf, .int .i64 xt]) rfl rfl hn.out (show Try.prog.underlying 65 = some (.array 2 3) by kernel_rfl) rfl info65) rfl ⟨rfl, t1.out⟩

end Go.Proofs.Ytkoplgpobagfoaa
