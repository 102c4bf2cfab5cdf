/-
  Layer 27: operations on ints and bytes, rows of ints.
-/
import Derived.Test.YtkoplgpobagfoaaVe
namespace Go.Proofs.Ytkoplgpobagfoaa
open Go.RowKit
set_option linter.unusedVariables false
set_option linter.unusedSimpArgs false

section
variable {a : Act} {w : World} {op : Oper}

theorem run_add {x y : Operand} {m n : Int} (z : Int) (ho : op.op = .binOp .add 3 x y 3) (hx : a.eval x = .int .i64 m) (hy : a.eval y = .int .i64 n) (hz : m + n = z) (h0 : -9223372036854775808 ≤ z) (h1 : z ≤ 9223372036854775807) :
    (execOp a.eval op).run Try.prog w = .ok (.value (.int .i64 z)) w := by
  have e : IntKind.i64.wrap (m + n) = z := by rw [IntKind.wrap_i64]; omega
  have e2 : IntKind.i64.wrap z = z := by rw [IntKind.wrap_i64]; omega
  unfold execOp
  simp only [ho, hx, hy]
  go_simp
  all_goals first | (rw [e]; done) | exact e2 | skip

theorem run_idx {x y : Operand} {s : ByteArray} {z : Int} (n : Nat) (ho : op.op = .index 9 x y) (hx : a.eval x = .string s) (hy : a.eval y = .int .i64 z) (hz : z = (n : Int)) (h : n < s.size) :
    (execOp a.eval op).run Try.prog w = .ok (.value (.int .u8 ((gb s n).toNat : Int))) w := by
  subst hz
  have e := gb_get s n h
  have h0 : (0 : Int) ≤ (n : Int) := by omega
  have h1 : (n : Int) < (s.size : Int) := by omega
  unfold execOp
  simp only [ho, hx, hy]
  go_simp
  all_goals first | (rw [e]; done) | (simp [e]; done) | skip

theorem run_cv53 {x : Operand} {b : UInt8} (ho : op.op = .convert 5 3 x) (hx : a.eval x = .int .u8 (b.toNat : Int)) :
    (execOp a.eval op).run Try.prog w = .ok (.value (.int .i64 (b.toNat : Int))) w := by
  have hb := b.toNat_lt
  have e : IntKind.i64.wrap (b.toNat : Int) = (b.toNat : Int) := by rw [IntKind.wrap_i64]; omega
  unfold execOp
  simp only [ho, hx]
  go_simp
  all_goals first | (rw [e]; done) | (simp [e]; done) | skip

theorem run_shl {x : Operand} {m k : Int} (z : Int) (ho : op.op = .binOp .shl 3 x (.const (.int .u64 k)) 69) (hx : a.eval x = .int .i64 m) (hk : k = 24 ∨ k = 16 ∨ k = 8) (hz : m * 2 ^ k.toNat = z) (h0 : 0 ≤ z) (h1 : z ≤ 9223372036854775807) :
    (execOp a.eval op).run Try.prog w = .ok (.value (.int .i64 z)) w := by
  have e : IntKind.i64.wrap z = z := by rw [IntKind.wrap_i64]; omega
  have e2 : a.eval (.const (.int .u64 k)) = .int .u64 k := rfl
  unfold execOp
  simp only [ho, hx, e2]
  rcases hk with rfl | rfl | rfl
  all_goals
    simp at hz
    subst hz
    go_simp
    all_goals first | (rw [e]; done) | (simp [e]; done) | skip

theorem run_load3 {x : Operand} {g o : Nat} {v : Value} (ho : op.op = .load 3 x) (hx : a.eval x = .pointer (some ⟨g, o, none⟩)) (hc : w.cell? ⟨g, o, none⟩ = some v) :
    (execOp a.eval op).run Try.prog w = .ok (.value v) w := by
  unfold execOp
  simp only [ho, hx]
  go_simp

theorem run_iaddr {x y : Operand} {g o n c : Nat} {z : Int} (j : Nat) (ho : op.op = .indexAddr 45 x y) (hx : a.eval x = .slice (some ⟨g, o, none⟩) n c) (hy : a.eval y = .int .i64 z) (hz : z = (j : Int)) (h : j < n) :
    (execOp a.eval op).run Try.prog w = .ok (.value (.pointer (some ⟨g, o + j, none⟩))) w := by
  subst hz
  have h0 : (0 : Int) ≤ (j : Int) := by omega
  have h1 : (j : Int) < (n : Int) := by omega
  unfold execOp
  simp only [ho, hx, hy]
  go_simp
end

end Go.Proofs.Ytkoplgpobagfoaa
