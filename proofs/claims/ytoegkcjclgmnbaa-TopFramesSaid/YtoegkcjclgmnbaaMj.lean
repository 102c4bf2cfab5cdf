/-
  Layer 11 (mail): the operations of Decode; the state that its walk carries.
-/
import Derived.Test.YtoegkcjclgmnbaaMi
import Derived.Deep.MidRow
import Derived.Lib.ConvBytes
namespace Go.Proofs.Ytoegkcjclgmnbaa
open Go.RowKit
set_option linter.unusedVariables false
set_option linter.unusedSimpArgs false

theorem elt74 : Elt Try.prog 47 74 2 32 := Elt.mk' (z := .agg #[.string ⟨#[]⟩, .string ⟨#[]⟩]) Try.underlying47 (by kernel_rfl) rfl (by decide)
theorem elt9 : Elt Try.prog 22 9 1 16 := Elt.mk' (z := .string ⟨#[]⟩) Try.underlying22 (by kernel_rfl) rfl (by decide)
theorem cf38 (args : Array Value) (w : World) : (callFunc 38 args).run Try.prog w = .ok (.enter 38 args) w := by kernel_rfl
theorem cf22 (args : Array Value) (w : World) : (callFunc 22 args).run Try.prog w = .ok (.enter 22 args) w := by kernel_rfl

/-! ### Rows of one's own -/

def slC (x : ByteArray × ByteArray) : List Value := [.string x.1, .string x.2]
def slF (L : List (ByteArray × ByteArray)) : List Value := L.flatMap slC
theorem slF_len (L : List (ByteArray × ByteArray)) : (slF L).length = L.length * 2 := by
  unfold slF
  induction L with
  | nil => rfl
  | cons x r ih => rw [List.flatMap_cons, List.length_append, ih, List.length_cons]; show 2 + _ = _; omega
theorem slF_at (L : List (ByteArray × ByteArray)) (i j : Nat) (h : i < L.length) (hj : j < 2) : (slF L)[i * 2 + j]? = (slC L[i])[j]? := by
  induction L generalizing i with
  | nil => simp at h
  | cons x r ih =>
    have e : slF (x :: r) = slC x ++ slF r := by unfold slF; rw [List.flatMap_cons]
    have e2 : (slC x).length = 2 := rfl
    rw [e]
    cases i with
    | zero => rw [Nat.zero_mul, Nat.zero_add, List.getElem?_append_left (by rw [e2]; exact hj)]; rfl
    | succ i =>
      rw [List.getElem?_append_right (by rw [e2]; omega), e2, show (i + 1) * 2 + j - 2 = i * 2 + j by omega, ih i (by simpa using h)]
      rfl
theorem slC_one (x : ByteArray × ByteArray) : ∀ u ∈ slC x, u.oneCell' = true := by
  intro u hu
  unfold slC at hu
  simp only [List.mem_cons, List.not_mem_nil, or_false] at hu
  rcases hu with rfl | rfl <;> rfl

/-- A row of slots of one's own. -/
def OwnS (B : Nat) (w : World) (v : Value) (L : List (ByteArray × ByteArray)) : Prop := w.ownsRow 0 74 2 v L.length (slF L) ∧ ∀ b, v.ownBlock = some b → B ≤ b
/-- A row of texts of one's own. -/
def OwnT (B : Nat) (w : World) (v : Value) (L : List ByteArray) : Prop := w.ownsRow 0 9 1 v L.length (L.map Value.string) ∧ ∀ b, v.ownBlock = some b → B ≤ b
theorem OwnS.nil (B : Nat) (w : World) : OwnS B w (.slice none 0 0) [] := ⟨⟨rfl, .inl ⟨rfl, rfl⟩⟩, fun b h => by cases h⟩
theorem OwnT.nil (B : Nat) (w : World) : OwnT B w (.slice none 0 0) [] := ⟨⟨rfl, .inl ⟨rfl, rfl⟩⟩, fun b h => by cases h⟩
theorem OwnS.keep {F : Nat → Prop} {B : Nat} {w w' : World} {v : Value} {L : List (ByteArray × ByteArray)} (h : OwnS B w v L) (ht : Touch F w w') (hf : ∀ b, v.ownBlock = some b → ¬ F b) : OwnS B w' v L := ⟨ht.owns h.1 hf, h.2⟩
theorem OwnT.keep {F : Nat → Prop} {B : Nat} {w w' : World} {v : Value} {L : List ByteArray} (h : OwnT B w v L) (ht : Touch F w w') (hf : ∀ b, v.ownBlock = some b → ¬ F b) : OwnT B w' v L := ⟨ht.owns h.1 hf, h.2⟩

theorem OwnS.sl {B : Nat} {w : World} {v : Value} {L : List (ByteArray × ByteArray)} (h : OwnS B w v L) : ∃ p c, v = .slice p L.length c ∧ SlSl w p c L := by
  rcases h.1.2 with ⟨hv, h0⟩ | ⟨g, cap, cur, hv, _, hg, hnc, _, hcs, htk⟩
  · have : L = [] := List.eq_nil_of_length_eq_zero h0
    subst this
    exact ⟨none, 0, hv, Nat.zero_le _, fun i hi => by simp at hi⟩
  · refine ⟨_, _, hv, hnc, fun i hi => ⟨g, 0, rfl, ?_, ?_⟩⟩
    · have hc := h.1.cells (g := g) (by rw [hv]; rfl) (i * 2 + 0) _ (by rw [slF_at L i 0 hi (by omega)]; rfl)
      rw [Addr.add_lit] at hc
      simpa using hc
    · have hc := h.1.cells (g := g) (by rw [hv]; rfl) (i * 2 + 1) _ (by rw [slF_at L i 1 hi (by omega)]; rfl)
      rw [Addr.add_lit] at hc
      simpa using hc
theorem OwnT.sl {B : Nat} {w : World} {v : Value} {L : List ByteArray} (h : OwnT B w v L) : ∃ p c, v = .slice p L.length c ∧ StrSl w p c L := by
  rcases h.1.2 with ⟨hv, h0⟩ | ⟨g, cap, cur, hv, _, hg, hnc, _, hcs, htk⟩
  · have : L = [] := List.eq_nil_of_length_eq_zero h0
    subst this
    exact ⟨none, 0, hv, Nat.zero_le _, fun i hi => by simp at hi⟩
  · refine ⟨_, _, hv, hnc, fun i hi => ⟨g, 0, rfl, ?_⟩⟩
    have hc := h.1.cells (g := g) (by rw [hv]; rfl) i _ (by rw [List.getElem?_map, List.getElem?_eq_getElem hi]; rfl)
    rw [Addr.add_lit] at hc
    simpa using hc

/-- Rows of two kinds lie in two blocks. -/
theorem own_ne {B : Nat} {w : World} {sv iv : Value} {S : List (ByteArray × ByteArray)} {I : List ByteArray} (h : OwnS B w sv S) (k : OwnT B w iv I) {b : Nat} (hb : sv.ownBlock = some b) : iv.ownBlock ≠ some b := by
  intro hc
  rcases h.1.2 with ⟨hv, _⟩ | ⟨g, cap, cur, hv, _, hg, _⟩
  · rw [hv] at hb; cases hb
  · rcases k.1.2 with ⟨hv2, _⟩ | ⟨g2, cap2, cur2, hv2, _, hg2, _⟩
    · rw [hv2] at hc; cases hc
    · rw [hv] at hb
      rw [hv2] at hc
      obtain rfl : g = b := by simpa [Value.ownBlock] using hb
      obtain rfl : g2 = g := by simpa [Value.ownBlock] using hc
      rw [hg] at hg2
      cases hg2

theorem wp_appS {o : Oper} {a : Act} {B : Nat} {w : World} {K : Act → World → Prop} {Q : Exit → Act → World → Prop} (s x : Operand)
    (ho : o.op = .call { callee := .builtin .append, args := #[s, x], argTypes := #[47, 47] }) {v : Value} {L : List (ByteArray × ByteArray)} {y : ByteArray × ByteArray} {g : Nat} (hs : a.eval s = v) (hO : OwnS B w v L) (hx : a.eval x = .slice (some ⟨g, 0, none⟩) 1 1)
    (hg : w.heap[g]? = some (.cells (slC y).toArray 74)) (ht : B ≤ w.heap.size) (hn : (L.length + 1) * 32 ≤ 140737488355328)
    (k : ∀ v' w', OwnS B w' v' (L ++ [y]) → Touch (fun b => v.ownBlock = some b) w w' → K (a.put o.dst v') w') : o.wp Try.prog a w K Q := by
  refine wp_app elt74 s x ho hs hO.1 hx (m := 1) (news := slC y) (.inr ⟨⟨g, 0, none⟩, 1, rfl, rfl, fun j u hu => ?_, slC_one y⟩) rfl (zs := slF (L ++ [y])) (by unfold slF; rw [List.flatMap_append]; simp) (by unfold maxLen; omega) hn ?_
  · rw [Addr.add_lit, Nat.zero_add, cell_blk hg j]
    simpa using hu
  · intro v' w' ho' hgr hor
    refine k v' w' ⟨by rw [List.length_append]; exact ho', fun b hb => ?_⟩ ((Touch.refl _ w).grown hgr (fun _ _ q => q))
    rcases hor with h | h
    · exact hO.2 b (by rw [← h]; exact hb)
    · rw [hb] at h
      obtain rfl : b = w.heap.size := by simpa using h
      exact ht
theorem wp_appT {o : Oper} {a : Act} {B : Nat} {w : World} {K : Act → World → Prop} {Q : Exit → Act → World → Prop} (s x : Operand)
    (ho : o.op = .call { callee := .builtin .append, args := #[s, x], argTypes := #[22, 22] }) {v : Value} {L : List ByteArray} {y : ByteArray} {g : Nat} (hs : a.eval s = v) (hO : OwnT B w v L) (hx : a.eval x = .slice (some ⟨g, 0, none⟩) 1 1)
    (hg : w.heap[g]? = some (.cells #[.string y] 9)) (ht : B ≤ w.heap.size) (hn : (L.length + 1) * 16 ≤ 140737488355328)
    (k : ∀ v' w', OwnT B w' v' (L ++ [y]) → Touch (fun b => v.ownBlock = some b) w w' → K (a.put o.dst v') w') : o.wp Try.prog a w K Q := by
  refine wp_app elt9 s x ho hs hO.1 hx (m := 1) (news := [.string y]) (.inr ⟨⟨g, 0, none⟩, 1, rfl, rfl, fun j u hu => ?_, fun u hu => by simp at hu; subst hu; rfl⟩) rfl (zs := (L ++ [y]).map Value.string) (by simp) (by unfold maxLen; omega) hn ?_
  · rw [Addr.add_lit, Nat.zero_add, cell_blk hg j]
    simpa using hu
  · intro v' w' ho' hgr hor
    refine k v' w' ⟨by rw [List.length_append]; exact ho', fun b hb => ?_⟩ ((Touch.refl _ w).grown hgr (fun _ _ q => q))
    rcases hor with h | h
    · exact hO.2 b (by rw [← h]; exact hb)
    · rw [hb] at h
      obtain rfl : b = w.heap.size := by simpa using h
      exact ht

theorem heap_setCells_at {g : Nat} {t : TypeId} {f : Nat × Nat} : ∀ (vs old pre : List Value) (w : World), w.heap[g]? = some (.cells (pre ++ old).toArray t f) → old.length = vs.length → (w.setCells g pre.length vs).heap[g]? = some (.cells (pre ++ vs).toArray t f)
  | [], old, pre, w, h, hl => by
    obtain rfl := List.eq_nil_of_length_eq_zero hl
    exact h
  | v :: r, [], _, _, _, hl => by simp at hl
  | v :: r, a :: old, pre, w, h, hl => by
    have h1 := heap_setCell_same h pre.length v
    have h2 : (w.setCell ⟨g, pre.length, none⟩ v).heap[g]? = some (.cells ((pre ++ [v]) ++ old).toArray t f) := by
      rw [h1]
      congr 2
      simp
    have h3 := heap_setCells_at r old (pre ++ [v]) _ h2 (by simpa using hl)
    rw [List.append_assoc, List.singleton_append, List.length_append] at h3
    exact h3
theorem heap_set7 {w : World} {g : Nat} {t : TypeId} {C D : List Value} (h : w.heap[g]? = some (.cells C.toArray t (0, 0))) (hC : C.length = 7) (hD : D.length = 7) : (w.setCells g 0 D.toArray.toList).heap[g]? = some (.cells D.toArray t (0, 0)) := by
  have := heap_setCells_at D C [] w h (by rw [hC, hD])
  simpa using this

/-! ### Operations -/

section
variable {a : Act} {w : World} {op : Oper} {K : Act → World → Prop} {Q : Exit → Act → World → Prop}
theorem run_idx0 {x : Operand} {b : UInt8} {r : List UInt8} (ho : op.op = .index 9 x (.const (.int .i64 0))) (hx : a.eval x = .string ⟨(b :: r).toArray⟩) :
    (execOp a.eval op).run Try.prog w = .ok (.value (byteV b)) w := by
  have e2 : a.eval (.const (.int .i64 0)) = .int .i64 0 := rfl
  have h1 : (0 : Int) < ((⟨(b :: r).toArray⟩ : ByteArray).size : Int) := by show (0 : Int) < (((b :: r).length : Nat) : Int); simp
  have e : (⟨(b :: r).toArray⟩ : ByteArray)[0]'(by show 0 < (b :: r).length; simp) = b := rfl
  unfold execOp byteV
  simp only [ho, hx, e2]
  go_simp
  all_goals first | (rw [e]; done) | (simp [e]; done) | skip
theorem run_cv53 {x : Operand} {b : UInt8} (ho : op.op = .convert 5 3 x) (hx : a.eval x = byteV b) :
    (execOp a.eval op).run Try.prog w = .ok (.value (.int .i64 (b.toNat : Int))) w := by
  have hb := b.toNat_lt
  have e : IntKind.i64.wrap (b.toNat : Int) = (b.toNat : Int) := by rw [IntKind.wrap_i64]; omega
  unfold byteV at hx
  unfold execOp
  simp only [ho, hx]
  go_simp
  all_goals first | (rw [e]; done) | (simp [e]; done) | skip
theorem run_shl8 {x : Operand} {m : Int} (z : Int) (ho : op.op = .binOp .shl 3 x (.const (.int .u64 8)) 62) (hx : a.eval x = .int .i64 m) (hz : m * 256 = z) (h0 : 0 ≤ z) (h1 : z ≤ 9223372036854775807) :
    (execOp a.eval op).run Try.prog w = .ok (.value (.int .i64 z)) w := by
  have e : IntKind.i64.wrap z = z := by rw [IntKind.wrap_i64]; omega
  have e2 : a.eval (.const (.int .u64 8)) = .int .u64 8 := rfl
  unfold execOp
  simp only [ho, hx, e2]
  subst hz
  go_simp
  all_goals first | (rw [e]; done) | (simp [e]; done) | skip
theorem run_or8 {x y : Operand} {m : Nat} {b : UInt8} {z z2 : Int} (ho : op.op = .binOp .or 3 x y 3) (hx : a.eval x = .int .i64 z) (hz : z = (m : Int) * 256) (hy : a.eval y = .int .i64 (b.toNat : Int)) (h1 : m ≤ 140737488355328) (hz2 : z2 = ((m * 256 + b.toNat : Nat) : Int)) :
    (execOp a.eval op).run Try.prog w = .ok (.value (.int .i64 z2)) w := by
  have hb := b.toNat_lt
  have e : bits .or .i64 z (b.toNat : Int) = z2 := by
    rw [i64_or8 _ _ (by omega) (by omega) (by omega) (by omega) (by omega)]; omega
  clear hz
  unfold execOp
  simp only [ho, hx, hy]
  go_simp
  all_goals first | (rw [e]; done) | (simp [e]; done) | skip

/-- A message's cells. -/
def mC (k u q : Int) (x g : ByteArray) (sv iv : Value) : List Value := [.int .i64 k, .int .i64 u, .int .i64 q, .string x, .string g, sv, iv]
def nilV : Value := .slice none 0 0
def zeroC : List Value := mC 0 0 0 e0 e0 nilV nilV

theorem run_bld49 {x : Operand} {k : Int} (ho : op.op = .build 49 #[(0, x)]) (hx : a.eval x = .int .i64 k) : (execOp a.eval op).run Try.prog w = .ok (.value (.agg (mC k 0 0 e0 e0 nilV nilV).toArray)) w := by
  have h : (Instr.build 49 #[(0, .int .i64 k)]).run Try.prog w = .ok (.agg (mC k 0 0 e0 e0 nilV nilV).toArray) w := by kernel_rfl
  unfold execOp
  simp only [ho, List.map_toArray, List.map_cons, List.map_nil, hx, Sem.run_bind, h, Result.andThen_ok, Sem.run_pure]
theorem run_bld74 {x y : Operand} {i t : ByteArray} (ho : op.op = .build 74 #[(0, x), (1, y)]) (hx : a.eval x = .string i) (hy : a.eval y = .string t) : (execOp a.eval op).run Try.prog w = .ok (.value (slV (i, t))) w := by
  have h : (Instr.build 74 #[(0, .string i), (1, .string t)]).run Try.prog w = .ok (slV (i, t)) w := by kernel_rfl
  unfold execOp
  simp only [ho, List.map_toArray, List.map_cons, List.map_nil, hx, hy, Sem.run_bind, h, Result.andThen_ok, Sem.run_pure]
theorem run_bs47 {x : Operand} {y : ByteArray × ByteArray} (ho : op.op = .buildSlice 47 1 #[(0, x)]) (hx : a.eval x = slV y) :
    (execOp a.eval op).run Try.prog w = .ok (.value (.slice (some ⟨w.heap.size, 0, none⟩) 1 1)) (w.alloc (.cells (slC y).toArray 74)) := by
  obtain ⟨i, t⟩ := y
  have h : (Instr.buildSlice 47 1 #[(0, slV (i, t))]).run Try.prog w = .ok (.slice (some ⟨w.heap.size, 0, none⟩) 1 1) (w.alloc (.cells (slC (i, t)).toArray 74)) := by kernel_rfl
  unfold execOp
  simp only [ho, List.map_toArray, List.map_cons, List.map_nil, hx, Sem.run_bind, h, Result.andThen_ok, Sem.run_pure]
theorem run_bs221 {x : Operand} {y : ByteArray} (ho : op.op = .buildSlice 22 1 #[(0, x)]) (hx : a.eval x = .string y) :
    (execOp a.eval op).run Try.prog w = .ok (.value (.slice (some ⟨w.heap.size, 0, none⟩) 1 1)) (w.alloc (.cells #[.string y] 9)) := by
  have h : (Instr.buildSlice 22 1 #[(0, .string y)]).run Try.prog w = .ok (.slice (some ⟨w.heap.size, 0, none⟩) 1 1) (w.alloc (.cells #[.string y] 9)) := by kernel_rfl
  unfold execOp
  simp only [ho, List.map_toArray, List.map_cons, List.map_nil, hx, Sem.run_bind, h, Result.andThen_ok, Sem.run_pure]
theorem run_al49 (ho : op.op = .alloc 49) : (execOp a.eval op).run Try.prog w = .ok (.value (.pointer (some ⟨w.heap.size, 0, none⟩))) (w.alloc (.cells zeroC.toArray 49)) := run_alloc ho (by kernel_rfl)
theorem run_al9 (ho : op.op = .alloc 9) : (execOp a.eval op).run Try.prog w = .ok (.value (.pointer (some ⟨w.heap.size, 0, none⟩))) (w.alloc (.cells #[.string e0] 9)) := run_alloc ho (by kernel_rfl)
theorem run_ld47 {x : Operand} {g o : Nat} {v : Value} (ho : op.op = .load 47 x) (hx : a.eval x = .pointer (some ⟨g, o, none⟩)) (hc : w.cell? ⟨g, o, none⟩ = some v) : (execOp a.eval op).run Try.prog w = .ok (.value v) w := by
  unfold execOp
  simp only [ho, hx]
  go_simp
theorem run_ld5 {x : Operand} {g o : Nat} {v : Value} (ho : op.op = .load 5 x) (hx : a.eval x = .pointer (some ⟨g, o, none⟩)) (hc : w.cell? ⟨g, o, none⟩ = some v) : (execOp a.eval op).run Try.prog w = .ok (.value v) w := by
  unfold execOp
  simp only [ho, hx]
  go_simp
theorem run_st3 {x y : Operand} {g o : Nat} {v : Value} {n : Int} (ho : op.op = .store 3 x y) (hx : a.eval x = .pointer (some ⟨g, o, none⟩)) (hy : a.eval y = .int .i64 n) (hc : w.cell? ⟨g, o, none⟩ = some v) (hf : w.frozen? ⟨g, o, none⟩ = false) :
    (execOp a.eval op).run Try.prog w = .ok .skip (w.setCell ⟨g, o, none⟩ (.int .i64 n)) := by
  unfold execOp
  simp only [ho, hx, hy]
  go_simp
theorem run_st9 {x y : Operand} {g o : Nat} {v : Value} {s : ByteArray} (ho : op.op = .store 9 x y) (hx : a.eval x = .pointer (some ⟨g, o, none⟩)) (hy : a.eval y = .string s) (hc : w.cell? ⟨g, o, none⟩ = some v) (hf : w.frozen? ⟨g, o, none⟩ = false) :
    (execOp a.eval op).run Try.prog w = .ok .skip (w.setCell ⟨g, o, none⟩ (.string s)) := by
  unfold execOp
  simp only [ho, hx, hy]
  go_simp
theorem run_st47 {x y : Operand} {g o : Nat} {v v2 : Value} (ho : op.op = .store 47 x y) (hx : a.eval x = .pointer (some ⟨g, o, none⟩)) (hy : a.eval y = v2) (h2 : ∃ p n c, v2 = .slice p n c) (hc : w.cell? ⟨g, o, none⟩ = some v) (hf : w.frozen? ⟨g, o, none⟩ = false) :
    (execOp a.eval op).run Try.prog w = .ok .skip (w.setCell ⟨g, o, none⟩ v2) := by
  obtain ⟨p, n, c, rfl⟩ := h2
  unfold execOp
  simp only [ho, hx, hy]
  go_simp
theorem run_st22 {x y : Operand} {g o : Nat} {v v2 : Value} (ho : op.op = .store 22 x y) (hx : a.eval x = .pointer (some ⟨g, o, none⟩)) (hy : a.eval y = v2) (h2 : ∃ p n c, v2 = .slice p n c) (hc : w.cell? ⟨g, o, none⟩ = some v) (hf : w.frozen? ⟨g, o, none⟩ = false) :
    (execOp a.eval op).run Try.prog w = .ok .skip (w.setCell ⟨g, o, none⟩ v2) := by
  obtain ⟨p, n, c, rfl⟩ := h2
  unfold execOp
  simp only [ho, hx, hy]
  go_simp
theorem run_min {x : Operand} {n : Nat} (ho : op.op = .call { callee := .builtin .min, args := #[x, .const (.int .i64 222)], argTypes := #[3, 3] }) (hx : a.eval x = .int .i64 (n : Int)) (hn : n ≤ 222) : (execOp a.eval op).run Try.prog w = .ok (.value (.int .i64 (n : Int))) w := by
  have h : (Builtin.min_ #[3, 3] op.type #[.int .i64 (n : Int), .int .i64 222]).run Try.prog w = .ok (.int .i64 (n : Int)) w := by
    go_simp
    omega
  have e2 : a.eval (.const (.int .i64 222)) = .int .i64 222 := rfl
  unfold execOp
  simp only [ho, resolve, invoke, builtin, Sem.run_bind, Sem.run_pure, Result.andThen_ok, List.map_toArray, List.map_cons, List.map_nil, hx, e2, h]
theorem run_front {x y : Operand} {s : List UInt8} {n : Nat} (ho : op.op = .slice 9 x none (some y) none) (hx : a.eval x = .string ⟨s.toArray⟩) (hy : a.eval y = .int .i64 (n : Int)) (hn : n ≤ s.length) :
    (execOp a.eval op).run Try.prog w = .ok (.value (.string ⟨(s.take n).toArray⟩)) w := by
  have h0 : (0 : Int) ≤ (n : Int) := by omega
  have h1 : (n : Int) ≤ ((⟨s.toArray⟩ : ByteArray).size : Int) := by show (n : Int) ≤ (s.length : Int); omega
  have e : (⟨s.toArray⟩ : ByteArray).extract 0 n = ⟨(s.take n).toArray⟩ := by
    apply ByteArray.ext
    simp [List.extract_eq_take_drop]
  unfold execOp
  simp only [ho, hx, hy, Option.map_some, Option.map_none]
  go_simp
  all_goals first | (rw [e]; done) | (simp [e]; done) | skip
theorem wp_cv955 {x : Operand} {s : ByteArray} (ho : op.op = .convert 9 55 x) (hx : a.eval x = .string s) (k : K (a.put op.dst (.slice (some ⟨w.heap.size, 0, none⟩) s.size (grownCap w s.size 0 5))) (Lib.bytesWorld w 5 s)) : op.wp Try.prog a w K Q := by
  refine wp_value ?_ k
  have h := Lib.run_convert_string_bytes (P := Try.prog) w 9 55 5 s Try.underlying9 Try.underlying55 Try.underlying5
  unfold execOp
  simp only [ho, hx, Sem.run_bind, h, Result.andThen_ok, Sem.run_pure]
theorem info49 (cs : Array Value) (h : cs.size = 7) : (Try.prog.info? 49).map (·.size) = some cs.size := by rw [h]; kernel_rfl
theorem wp_st49 {x y : Operand} {g : Nat} {C D : List Value} (ho : op.op = .store 49 x y) (hx : a.eval x = .pointer (some ⟨g, 0, none⟩)) (hy : a.eval y = .agg D.toArray) (hC : C.length = 7) (hD : D.length = 7) (hg : w.heap[g]? = some (.cells C.toArray 49 (0, 0))) (h1 : D.toArray.all (·.oneCell') = true)
    (k : ∀ w', w'.heap[g]? = some (.cells D.toArray 49 (0, 0)) → Touch (fun i => i = g) w w' → K (a.put op.dst undef) w') : op.wp Try.prog a w K Q := by
  refine wp_store_mid 49 x y ho g 0 D.toArray hx hy (blk_there hg (by simp [hC, hD])) (info49 _ (by simp [hD])) h1 ?_
  exact k _ (heap_set7 hg hC hD) (touch_setCells _ _ _ _)
end

/-! ### What Decode carries -/

theorem touch_one (w : World) (g i : Nat) (v : Value) : Touch (fun k => k = g) w (w.setCell ⟨g, i, none⟩ v) := Touch.setCell (F := fun k => k = g) (p := ⟨g, i, none⟩) (Touch.refl _ w) (fun _ => rfl) v

/-- In w' (come from w) block g is the result's, g + 1 holds what is left, g + 2 the message so far. -/
structure Dc (w : World) (g : Nat) (w' : World) (r : List UInt8) (k u q : Int) (tg : ByteArray) (sv iv : Value) (S : List (ByteArray × ByteArray)) (I : List ByteArray) : Prop where
  eg : g = w.heap.size
  t : Touch Nothing w w'
  sz : g + 3 ≤ w'.heap.size
  h2 : w'.heap[g]? = some (.cells zeroC.toArray 49 (0, 0))
  h4 : w'.heap[g + 1]? = some (.cells #[.string ⟨r.toArray⟩] 9 (0, 0))
  h5 : w'.heap[g + 2]? = some (.cells (mC k u q e0 tg sv iv).toArray 49 (0, 0))
  oS : OwnS (g + 3) w' sv S
  oI : OwnT (g + 3) w' iv I

section
variable {w w1 : World} {g : Nat} {r : List UInt8} {k u q : Int} {tg : ByteArray} {sv iv : Value} {S : List (ByteArray × ByteArray)} {I : List ByteArray}
theorem Dc.keep {w2 : World} (h : Dc w g w1 r k u q tg sv iv S I) (ht : Touch Nothing w1 w2) : Dc w g w2 r k u q tg sv iv S I :=
  ⟨h.eg, h.t.trans' ht, Nat.le_trans h.sz ht.size, ht.heap h.h2 (fun q => q), ht.heap h.h4 (fun q => q), ht.heap h.h5 (fun q => q), h.oS.keep ht (fun _ _ q => q), h.oI.keep ht (fun _ _ q => q)⟩
theorem Dc.front {F : Nat → Prop} {w2 : World} (h : Dc w g w1 r k u q tg sv iv S I) (ht : Touch F w1 w2) (hF : ∀ b, F b → g ≤ b) : Touch Nothing w w2 := h.t.trans ht fun i hi q => by have := hF i q; have := h.eg; omega
theorem Dc.c4 (h : Dc w g w1 r k u q tg sv iv S I) : w1.cell? ⟨g + 1, 0, none⟩ = some (.string ⟨r.toArray⟩) := cell_at h.h4 0
theorem Dc.f4 (h : Dc w g w1 r k u q tg sv iv S I) : w1.frozen? ⟨g + 1, 0, none⟩ = false := frz_blk h.h4 0
theorem Dc.f5 (h : Dc w g w1 r k u q tg sv iv S I) (i : Nat) : w1.frozen? ⟨g + 2, i, none⟩ = false := frz_blk h.h5 i
theorem Dc.k0 (h : Dc w g w1 r k u q tg sv iv S I) : w1.cell? ⟨g + 2, 0, none⟩ = some (.int .i64 k) := cell_at h.h5 0
theorem Dc.k1 (h : Dc w g w1 r k u q tg sv iv S I) : w1.cell? ⟨g + 2, 1, none⟩ = some (.int .i64 u) := cell_at h.h5 1
theorem Dc.k2 (h : Dc w g w1 r k u q tg sv iv S I) : w1.cell? ⟨g + 2, 2, none⟩ = some (.int .i64 q) := cell_at h.h5 2
theorem Dc.k4 (h : Dc w g w1 r k u q tg sv iv S I) : w1.cell? ⟨g + 2, 4, none⟩ = some (.string tg) := cell_at h.h5 4
theorem Dc.k5 (h : Dc w g w1 r k u q tg sv iv S I) : w1.cell? ⟨g + 2, 5, none⟩ = some sv := cell_at h.h5 5
theorem Dc.k6 (h : Dc w g w1 r k u q tg sv iv S I) : w1.cell? ⟨g + 2, 6, none⟩ = some iv := cell_at h.h5 6

theorem Dc.rest (h : Dc w g w1 r k u q tg sv iv S I) (r' : List UInt8) : Dc w g (w1.setCell ⟨g + 1, 0, none⟩ (.string ⟨r'.toArray⟩)) r' k u q tg sv iv S I := by
  have ht : Touch (fun i => i = g + 1) w1 (w1.setCell ⟨g + 1, 0, none⟩ (.string ⟨r'.toArray⟩)) := touch_one w1 (g + 1) 0 _
  refine ⟨h.eg, h.front ht (fun b hb => by omega), Nat.le_trans h.sz ht.size, ht.heap h.h2 (by omega), ?_, ht.heap h.h5 (by omega), h.oS.keep ht (fun b hb q => by have := h.oS.2 b hb; omega), h.oI.keep ht (fun b hb q => by have := h.oI.2 b hb; omega)⟩
  rw [heap_setCell_same h.h4]
  rfl
theorem Dc.set {k' u' q' : Int} {tg' : ByteArray} (h : Dc w g w1 r k u q tg sv iv S I) (i : Nat) (v : Value) (he : (mC k u q e0 tg sv iv).toArray.setIfInBounds i v = (mC k' u' q' e0 tg' sv iv).toArray) : Dc w g (w1.setCell ⟨g + 2, i, none⟩ v) r k' u' q' tg' sv iv S I := by
  have ht : Touch (fun i => i = g + 2) w1 (w1.setCell ⟨g + 2, i, none⟩ v) := touch_one w1 (g + 2) i v
  refine ⟨h.eg, h.front ht (fun b hb => by omega), Nat.le_trans h.sz ht.size, ht.heap h.h2 (by omega), ht.heap h.h4 (by omega), ?_, h.oS.keep ht (fun b hb q => by have := h.oS.2 b hb; omega), h.oI.keep ht (fun b hb q => by have := h.oI.2 b hb; omega)⟩
  rw [heap_setCell_same h.h5, he]
theorem Dc.setU (h : Dc w g w1 r k u q tg sv iv S I) (u' : Int) : Dc w g (w1.setCell ⟨g + 2, 1, none⟩ (.int .i64 u')) r k u' q tg sv iv S I := h.set 1 _ rfl
theorem Dc.setQ (h : Dc w g w1 r k u q tg sv iv S I) (q' : Int) : Dc w g (w1.setCell ⟨g + 2, 2, none⟩ (.int .i64 q')) r k u q' tg sv iv S I := h.set 2 _ rfl
theorem Dc.setG (h : Dc w g w1 r k u q tg sv iv S I) (tg' : ByteArray) : Dc w g (w1.setCell ⟨g + 2, 4, none⟩ (.string tg')) r k u q tg' sv iv S I := h.set 4 _ rfl
theorem Dc.setS {w2 : World} {sv' : Value} {S' : List (ByteArray × ByteArray)} (h : Dc w g w1 r k u q tg sv iv S I) (ht : Touch (fun b => sv.ownBlock = some b) w1 w2) (ho : OwnS (g + 3) w2 sv' S') : Dc w g (w2.setCell ⟨g + 2, 5, none⟩ sv') r k u q tg sv' iv S' I := by
  have hlt := fun b (hb : sv.ownBlock = some b) => h.oS.2 b hb
  have ht2 : Touch (fun i => i = g + 2) w2 (w2.setCell ⟨g + 2, 5, none⟩ sv') := touch_one w2 (g + 2) 5 sv'
  have hI := h.oI.keep ht (fun b hb q => own_ne h.oS h.oI q hb)
  refine ⟨h.eg, (h.front ht (fun b hb => by have := hlt b hb; omega)).trans ht2 (fun i hi q => by have := h.eg; omega), by have := h.sz; have := ht.size; have := ht2.size; omega, ht2.heap (ht.heap h.h2 (fun q => by have := hlt _ q; omega)) (by omega), ht2.heap (ht.heap h.h4 (fun q => by have := hlt _ q; omega)) (by omega), ?_, ho.keep ht2 (fun b hb q => by have := ho.2 b hb; omega), hI.keep ht2 (fun b hb q => by have := hI.2 b hb; omega)⟩
  rw [heap_setCell_same (ht.heap h.h5 (fun q => by have := hlt _ q; omega))]
  rfl
theorem Dc.setI {w2 : World} {iv' : Value} {I' : List ByteArray} (h : Dc w g w1 r k u q tg sv iv S I) (ht : Touch (fun b => iv.ownBlock = some b) w1 w2) (ho : OwnT (g + 3) w2 iv' I') : Dc w g (w2.setCell ⟨g + 2, 6, none⟩ iv') r k u q tg sv iv' S I' := by
  have hlt := fun b (hb : iv.ownBlock = some b) => h.oI.2 b hb
  have ht2 : Touch (fun i => i = g + 2) w2 (w2.setCell ⟨g + 2, 6, none⟩ iv') := touch_one w2 (g + 2) 6 iv'
  have hS := h.oS.keep ht (fun b hb q => own_ne h.oS h.oI hb q)
  refine ⟨h.eg, (h.front ht (fun b hb => by have := hlt b hb; omega)).trans ht2 (fun i hi q => by have := h.eg; omega), by have := h.sz; have := ht.size; have := ht2.size; omega, ht2.heap (ht.heap h.h2 (fun q => by have := hlt _ q; omega)) (by omega), ht2.heap (ht.heap h.h4 (fun q => by have := hlt _ q; omega)) (by omega), ?_, hS.keep ht2 (fun b hb q => by have := hS.2 b hb; omega), ho.keep ht2 (fun b hb q => by have := ho.2 b hb; omega)⟩
  rw [heap_setCell_same (ht.heap h.h5 (fun q => by have := hlt _ q; omega))]
  rfl

theorem ba_ext0 {a r : List UInt8} {n : Nat} (hn : a.length = n) : (⟨(a ++ r).toArray⟩ : ByteArray).extract 0 n = ⟨a.toArray⟩ := by
  apply ByteArray.ext
  subst hn
  simp [List.extract_eq_take_drop]
theorem ba_ext1 {a r : List UInt8} {n : Nat} (hn : a.length = n) : (⟨(a ++ r).toArray⟩ : ByteArray).extract n (⟨(a ++ r).toArray⟩ : ByteArray).size = ⟨r.toArray⟩ := by
  apply ByteArray.ext
  subst hn
  simp [List.extract_eq_take_drop, ByteArray.size]

/-- cut, in lists. -/
theorem cut_l (w : World) (g : Nat) (l a r : List UInt8) (n : Nat) (hl : l = a ++ r) (hn : a.length = n) (hs : l.length ≤ 65536) (hc : w.cell? ⟨g, 0, none⟩ = some (.string ⟨l.toArray⟩)) (hf : w.frozen? ⟨g, 0, none⟩ = false) :
    Calls Try.prog 38 #[.pointer (some ⟨g, 0, none⟩), .int .i64 (n : Int)] w fun e w' => e = .returned (.string ⟨a.toArray⟩) ∧ w' = w.setCell ⟨g, 0, none⟩ (.string ⟨r.toArray⟩) := by
  subst hl
  have e : (⟨(a ++ r).toArray⟩ : ByteArray).size = (a ++ r).length := rfl
  refine (cut_any w g ⟨(a ++ r).toArray⟩ n hc hf (by rw [e, List.length_append]; omega) (by rw [e]; exact hs)).mono ?_
  rintro x w' ⟨rfl, rfl⟩
  rw [ba_ext0 hn, ba_ext1 hn]
  exact ⟨rfl, rfl⟩
theorem Dc.cut (h : Dc w g w1 r k u q tg sv iv S I) (a r' : List UInt8) (n : Nat) (hl : r = a ++ r') (hn : a.length = n) (hs : r.length ≤ 65536) :
    Calls Try.prog 38 #[.pointer (some ⟨g + 1, 0, none⟩), .int .i64 (n : Int)] w1 fun e w' => e = .returned (.string ⟨a.toArray⟩) ∧ Dc w g w' r' k u q tg sv iv S I :=
  (cut_l w1 (g + 1) r a r' n hl hn hs h.c4 h.f4).mono fun e w' x => ⟨x.1, by rw [x.2]; exact h.rest r'⟩
end

end Go.Proofs.Ytoegkcjclgmnbaa
