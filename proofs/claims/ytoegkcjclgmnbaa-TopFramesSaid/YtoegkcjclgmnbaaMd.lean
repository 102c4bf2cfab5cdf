/-
  Layer 11 (mail): a message's text, plain; the operations of Encode.
-/
import Derived.Test.YtoegkcjclgmnbaaMc
import Derived.Test.YtoegkcjclgmnbaaOpl
namespace Go.Proofs.Ytoegkcjclgmnbaa
open Go.RowKit
set_option linter.unusedVariables false
set_option linter.unusedSimpArgs false

def bt (n : Int) : UInt8 := UInt8.ofNat (n % 256).toNat
def padl (n : Nat) (s : ByteArray) : List UInt8 := tx s ++ List.replicate (n - s.size) 0
def slB (x : ByteArray × ByteArray) : List UInt8 := padl 16 x.1 ++ (bt x.2.size :: padl 222 x.2)
def longM (k : Int) : Nat := if k = 1 then 505 else if k = 2 then 38 else if k = 3 then 962 else if k = 4 then 102 else 0
def bodyM (m : Ml) : List UInt8 := bt m.k :: bt m.u :: bt (m.q / 16777216) :: bt (m.q / 65536) :: bt (m.q / 256) :: bt m.q :: (tx m.g ++ (m.s.flatMap slB ++ m.i.flatMap tx))
/-- A message's text. -/
def encM (m : Ml) : List UInt8 := if m.k = 1 then bt m.k :: tx m.x else bodyM m ++ List.replicate (longM m.k - (bodyM m).length) 0

section
variable {a : Act} {w : World} {op : Oper}
theorem run_f49 {x : Operand} {g : Nat} (k : Nat) (ho : op.op = .fieldAddr 49 x k) (hx : a.eval x = .pointer (some ⟨g, 0, none⟩)) (hk : k < 7) : (execOp a.eval op).run Try.prog w = .ok (.value (.pointer (some ⟨g, k, none⟩))) w := by
  have hc : k = 0 ∨ k = 1 ∨ k = 2 ∨ k = 3 ∨ k = 4 ∨ k = 5 ∨ k = 6 := by omega
  rcases hc with rfl | rfl | rfl | rfl | rfl | rfl | rfl <;> exact run_field ho hx (by kernel_rfl)
theorem run_f74 {x : Operand} {g : Nat} (k : Nat) (ho : op.op = .fieldAddr 74 x k) (hx : a.eval x = .pointer (some ⟨g, 0, none⟩)) (hk : k < 2) : (execOp a.eval op).run Try.prog w = .ok (.value (.pointer (some ⟨g, k, none⟩))) w := by
  have hc : k = 0 ∨ k = 1 := by omega
  rcases hc with rfl | rfl <;> exact run_field ho hx (by kernel_rfl)
theorem run_ld3 {x : Operand} {g o : Nat} {v : Value} (ho : op.op = .load 3 x) (hx : a.eval x = .pointer (some ⟨g, o, none⟩)) (hc : w.cell? ⟨g, o, none⟩ = some v) : (execOp a.eval op).run Try.prog w = .ok (.value v) w := by
  unfold execOp
  simp only [ho, hx]
  go_simp
theorem run_ld9 {x : Operand} {g o : Nat} {v : Value} (ho : op.op = .load 9 x) (hx : a.eval x = .pointer (some ⟨g, o, none⟩)) (hc : w.cell? ⟨g, o, none⟩ = some v) : (execOp a.eval op).run Try.prog w = .ok (.value v) w := by
  unfold execOp
  simp only [ho, hx]
  go_simp
theorem run_ld22 {x : Operand} {g o : Nat} {v : Value} (ho : op.op = .load 22 x) (hx : a.eval x = .pointer (some ⟨g, o, none⟩)) (hc : w.cell? ⟨g, o, none⟩ = some v) : (execOp a.eval op).run Try.prog w = .ok (.value v) w := by
  unfold execOp
  simp only [ho, hx]
  go_simp
theorem run_cv35 {x : Operand} {n : Int} (ho : op.op = .convert 3 5 x) (hx : a.eval x = .int .i64 n) : (execOp a.eval op).run Try.prog w = .ok (.value (byteV (bt n))) w := by
  have e : ((bt n).toNat : Int) = n % 256 := by
    unfold bt
    simp
    omega
  have e2 : IntKind.u8.wrap n = n % 256 := by rw [IntKind.wrap_u8]
  unfold execOp byteV
  simp only [ho, hx]
  rw [e]
  go_simp
theorem run_shr {x : Operand} {m k : Int} (z : Int) (ho : op.op = .binOp .shr 3 x (.const (.int .u64 k)) 62) (hx : a.eval x = .int .i64 m) (hk : k = 24 ∨ k = 16 ∨ k = 8) (hz : m / 2 ^ k.toNat = z) (h0 : 0 ≤ m) (h1 : m ≤ 9223372036854775807) :
    (execOp a.eval op).run Try.prog w = .ok (.value (.int .i64 z)) w := by
  have e2 : a.eval (.const (.int .u64 k)) = .int .u64 k := rfl
  unfold execOp
  simp only [ho, hx, e2]
  rcases hk with rfl | rfl | rfl
  all_goals
    simp at hz
    have e : IntKind.i64.wrap z = z := by rw [IntKind.wrap_i64]; omega
    subst hz
    go_simp
    all_goals first | (rw [e]; done) | (simp [e]; done) | skip
theorem run_bs551 {x : Operand} {b : UInt8} (ho : op.op = .buildSlice 55 1 #[(0, x)]) (hx : a.eval x = byteV b) :
    (execOp a.eval op).run Try.prog w = .ok (.value (.slice (some ⟨w.heap.size, 0, none⟩) 1 1)) (w.alloc (.cells ([b].map byteV).toArray 5)) := by
  have h : (Instr.buildSlice 55 1 #[(0, byteV b)]).run Try.prog w = .ok (.slice (some ⟨w.heap.size, 0, none⟩) 1 1) (w.alloc (.cells ([b].map byteV).toArray 5)) := by kernel_rfl
  unfold execOp
  simp only [ho, List.map_toArray, List.map_cons, List.map_nil, hx, Sem.run_bind, h, Result.andThen_ok, Sem.run_pure]
theorem run_bs555 {x0 x1 x2 x3 x4 : Operand} {b0 b1 b2 b3 b4 : UInt8} (ho : op.op = .buildSlice 55 5 #[(0, x0), (1, x1), (2, x2), (3, x3), (4, x4)]) (h0 : a.eval x0 = byteV b0) (h1 : a.eval x1 = byteV b1) (h2 : a.eval x2 = byteV b2) (h3 : a.eval x3 = byteV b3) (h4 : a.eval x4 = byteV b4) :
    (execOp a.eval op).run Try.prog w = .ok (.value (.slice (some ⟨w.heap.size, 0, none⟩) 5 5)) (w.alloc (.cells ([b0, b1, b2, b3, b4].map byteV).toArray 5)) := by
  have h : (Instr.buildSlice 55 5 #[(0, byteV b0), (1, byteV b1), (2, byteV b2), (3, byteV b3), (4, byteV b4)]).run Try.prog w = .ok (.slice (some ⟨w.heap.size, 0, none⟩) 5 5) (w.alloc (.cells ([b0, b1, b2, b3, b4].map byteV).toArray 5)) := by kernel_rfl
  unfold execOp
  simp only [ho, List.map_toArray, List.map_cons, List.map_nil, h0, h1, h2, h3, h4, Sem.run_bind, h, Result.andThen_ok, Sem.run_pure]
theorem run_cv559 {x : Operand} {g n : Nat} {bs : List UInt8} (ho : op.op = .convert 55 9 x) (hx : a.eval x = .slice (some ⟨g, 0, none⟩) n n) (hn : bs.length = n) (hg : w.heap[g]? = some (.cells (bs.map byteV).toArray 5 (0, 0))) :
    (execOp a.eval op).run Try.prog w = .ok (.value (.string ⟨bs.toArray⟩)) w := by
  have hs : SlB w (some ⟨g, 0, none⟩) n bs := ⟨by omega, fun i hi => ⟨g, 0, rfl, by
    rw [cell_at hg, Nat.zero_add, List.getElem?_toArray, List.getElem?_map, List.getElem?_eq_getElem hi]; rfl⟩⟩
  have h := hs.conv hn 55 5 9 Try.underlying55 Try.underlying5 Try.underlying9 n
  unfold execOp
  simp only [ho, hx, Sem.run_bind, h, Result.andThen_ok, Sem.run_pure]
end

end Go.Proofs.Ytoegkcjclgmnbaa
