/-
  Two frames are compared.
-/
import Derived.Test.YtkoplgpobagfoaaVm
import Derived.Laws.StructEq
namespace Go.Proofs.Ytkoplgpobagfoaa
open Go.RowKit
set_option linter.unusedVariables false
set_option linter.unusedSimpArgs false

theorem hu50 : Try.prog.underlying 50 = some (.struct (Try.prog.fieldsOf 50)) := by kernel_rfl
theorem hs50 : Try.prog.stoodInHeld 50 = false := by kernel_rfl
theorem hg50 : Try.prog.eqGuardType Try.prog.depth 50 = false := by kernel_rfl
theorem hf50 : (Try.prog.fieldsOf 50).toList = [{ name := "At", type := 3, offset := 0, embedded := false, tag := "", pkgPath := "", byteOffset := 0 },
        { name := "From", type := 3, offset := 1, embedded := false, tag := "", pkgPath := "", byteOffset := 8 },
        { name := "To", type := 3, offset := 2, embedded := false, tag := "", pkgPath := "", byteOffset := 16 },
        { name := "Long", type := 3, offset := 3, embedded := false, tag := "", pkgPath := "", byteOffset := 24 }] := by
  unfold Program.fieldsOf
  rw [Try.underlying50]
theorem run_eq50 (w : World) (x y : Fr) : (Op.equalIn 10000 50 (frV x) (frV y)).run Try.prog w = .ok (decide (x = y)) w := by
  unfold frV
  rw [run_equalIn_agg w 9999 50 _ _ hu50 hs50, hf50]
  obtain ⟨xa, xf, xt, xl⟩ := x
  obtain ⟨ya, yf, yt, yl⟩ := y
  have p0 : ∀ (v : World) (a b c d : Int), (part 3 #[Value.int .i64 a, .int .i64 b, .int .i64 c, .int .i64 d] 0).run Try.prog v = .ok (.int .i64 a) v := by intro v a b c d; kernel_rfl
  have p1 : ∀ (v : World) (a b c d : Int), (part 3 #[Value.int .i64 a, .int .i64 b, .int .i64 c, .int .i64 d] 1).run Try.prog v = .ok (.int .i64 b) v := by intro v a b c d; kernel_rfl
  have p2 : ∀ (v : World) (a b c d : Int), (part 3 #[Value.int .i64 a, .int .i64 b, .int .i64 c, .int .i64 d] 2).run Try.prog v = .ok (.int .i64 c) v := by intro v a b c d; kernel_rfl
  have p3 : ∀ (v : World) (a b c d : Int), (part 3 #[Value.int .i64 a, .int .i64 b, .int .i64 c, .int .i64 d] 3).run Try.prog v = .ok (.int .i64 d) v := by intro v a b c d; kernel_rfl
  have q : ∀ (v : World) (a b : Int), (Op.equalIn 9999 3 (.int .i64 a) (.int .i64 b)).run Try.prog v = .ok (a == b) v := fun v a b => run_equalIn_int v 9998 3 .i64 .i64 a b Try.underlying3
  simp only [Op.eqFields]
  rw [if_pos (by decide), if_pos (by decide), if_pos (by decide), if_pos (by decide)]
  simp only [Sem.run_bind, p0, p1, p2, p3, q, Result.andThen_ok, Sem.run_ite, Sem.run_pure]
  by_cases h0 : xa = ya <;> by_cases h1 : xf = yf <;> by_cases h2 : xt = yt <;> by_cases h3 : xl = yl <;> simp [h0, h1, h2, h3]

theorem run_neF (w : World) (x y : Fr) : (binOp .neq 50 (frV x) (frV y)).run Try.prog w = .ok (.bool (!decide (x = y))) w := by
  have := run_neq_struct (P := Try.prog) w 50 #[.int .i64 x.a, .int .i64 x.f, .int .i64 x.t, .int .i64 x.l] #[.int .i64 y.a, .int .i64 y.f, .int .i64 y.t, .int .i64 y.l]
  unfold frV
  rw [this]
  have h := run_eq50 w x y
  unfold frV at h
  rw [h]
  rfl
theorem run_eqF (w : World) (x y : Fr) : (binOp .eql 50 (frV x) (frV y)).run Try.prog w = .ok (.bool (decide (x = y))) w := by
  have := run_eql_struct (P := Try.prog) w 50 #[.int .i64 x.a, .int .i64 x.f, .int .i64 x.t, .int .i64 x.l] #[.int .i64 y.a, .int .i64 y.f, .int .i64 y.t, .int .i64 y.l]
  unfold frV
  rw [this]
  have h := run_eq50 w x y
  unfold frV at h
  rw [h]
  rfl
theorem run_gF (w : World) (op : BinOp) (a b : Operand) (x y : Fr) : (eqGuard op 50 a b (frV x) (frV y)).run Try.prog w = .ok () w := run_eqGuard_agg w op 50 a b _ _ hg50
end Go.Proofs.Ytkoplgpobagfoaa
