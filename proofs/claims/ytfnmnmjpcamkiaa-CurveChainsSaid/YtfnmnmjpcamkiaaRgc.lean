/-
  Operations on whole numbers and pairs of the reference, one law each: the digits are a list, whatever it is.
  The reference's step, walked. Printed by mkrgb.py.
  The reference's ladder: in plain numbers it is the program's, and the walk of it. Printed by mkrgc.py.
-/
import Derived.Test.YtfnmnmjpcamkiaaRf8
import Derived.Test.YtfnmnmjpcamkiaaCl1
import Derived.Deep.MidRow
import Derived.Deep.RegionHeld
import Derived.Test.YtfnmnmjpcamkiaaCl4
import Derived.Test.YtfnmnmjpcamkiaaRf7
namespace Go.Proofs.Ytfnmnmjpcamkiaa
open Go.RowKit
set_option linter.unusedVariables false
set_option linter.unusedSimpArgs false

def pairC (l m : List Int) : Obj := .cells (numA (l ++ m)) 90

theorem info90 : (Try.prog.info? 90).map (·.size) = some 20 := by kernel_rfl

theorem numA_list (l : List Int) : numA l = (l.map (Value.int .i64)).toArray := rfl

theorem rng_num {w : World} {g : Nat} {l : List Int} (h : w.heap[g]? = some (numC l)) : w.rangeAt g 0 (l.map (Value.int .i64)) := range_blk (blk_num h)

theorem rng_pair {w : World} {g : Nat} {l m : List Int} (h : w.heap[g]? = some (pairC l m)) : w.rangeAt g 0 ((l ++ m).map (Value.int .i64)) :=
  range_blk (cs := (l ++ m).map (Value.int .i64)) (show w.heap[g]? = some (.cells ((l ++ m).map (Value.int .i64)).toArray 90 (0, 0)) from h)

theorem rng_fst {w : World} {g : Nat} {l m : List Int} (h : w.heap[g]? = some (pairC l m)) : w.rangeAt g 0 (l.map (Value.int .i64)) := fun j v hv => by
  refine rng_pair h j v ?_
  rw [List.map_append, List.getElem?_append_left (List.getElem?_eq_some_iff.1 hv).1]
  exact hv

theorem rng_snd {w : World} {g : Nat} {l m : List Int} (hl : l.length = 10) (h : w.heap[g]? = some (pairC l m)) : w.rangeAt g 10 (m.map (Value.int .i64)) := fun j v hv => by
  have := rng_pair h (10 + j) v (by
    rw [List.map_append, List.getElem?_append_right (by rw [List.length_map]; omega), List.length_map, hl]
    simpa using hv)
  rw [Nat.zero_add] at this
  exact this

section
variable {a : Act} {w : World} {K : Act → World → Prop} {Q : Exit → Act → World → Prop} {op : Oper}

theorem wp_value {v : Value} {w' : World} (h : (execOp a.eval op).run Try.prog w = .ok (.value v) w') (k : K (a.put op.dst v) w') : op.wp Try.prog a w K Q := by
  unfold Oper.wp
  rw [h]
  exact k

theorem run_fst {x : Operand} {g : Nat} (ho : op.op = .fieldAddr 90 x 0) (hx : a.eval x = .pointer (some ⟨g, 0, none⟩)) : (execOp a.eval op).run Try.prog w = .ok (.value (.pointer (some ⟨g, 0, none⟩))) w := by
  have h : (Instr.fieldAt 90 (.pointer (some ⟨g, 0, none⟩)) 0).run Try.prog w = .ok (.pointer (some ⟨g, 0, none⟩)) w := by kernel_rfl
  unfold execOp
  simp only [ho, hx, Sem.run_bind, h, Result.andThen_ok, Sem.run_pure]

theorem run_snd {x : Operand} {g : Nat} (ho : op.op = .fieldAddr 90 x 1) (hx : a.eval x = .pointer (some ⟨g, 0, none⟩)) : (execOp a.eval op).run Try.prog w = .ok (.value (.pointer (some ⟨g, 10, none⟩))) w := by
  have h : (Instr.fieldAt 90 (.pointer (some ⟨g, 0, none⟩)) 1).run Try.prog w = .ok (.pointer (some ⟨g, 10, none⟩)) w := by kernel_rfl
  unfold execOp
  simp only [ho, hx, Sem.run_bind, h, Result.andThen_ok, Sem.run_pure]

theorem run_load54 {x : Operand} {g o : Nat} {l : List Int} (ho : op.op = .load 54 x) (hx : a.eval x = .pointer (some ⟨g, o, none⟩)) (hr : w.rangeAt g o (l.map (Value.int .i64))) (hl : l.length = 10) :
    (execOp a.eval op).run Try.prog w = .ok (.value (numV l)) w := by
  have hi : (Try.prog.info? 54).map (·.size) = some (l.map (Value.int .i64)).length := by rw [List.length_map, hl]; exact info54
  have h := run_loadAt_mid (P := Try.prog) w g o 54 _ _ hr Try.underlying54 rfl hi
  unfold execOp
  simp only [ho, hx, Sem.run_bind, h, Result.andThen_ok, Sem.run_pure]
  rfl

theorem run_load90 {x : Operand} {g o : Nat} {l : List Int} (ho : op.op = .load 90 x) (hx : a.eval x = .pointer (some ⟨g, o, none⟩)) (hr : w.rangeAt g o (l.map (Value.int .i64))) (hl : l.length = 20) :
    (execOp a.eval op).run Try.prog w = .ok (.value (numV l)) w := by
  have hi : (Try.prog.info? 90).map (·.size) = some (l.map (Value.int .i64)).length := by rw [List.length_map, hl]; exact info90
  have h := run_loadAt_mid (P := Try.prog) w g o 90 _ _ hr Try.underlying90 rfl hi
  unfold execOp
  simp only [ho, hx, Sem.run_bind, h, Result.andThen_ok, Sem.run_pure]
  rfl

theorem run_box54 {x : Operand} {l : List Int} (ho : op.op = .box 54 x) (hx : a.eval x = numV l) (hl : l.length = 10) :
    (execOp a.eval op).run Try.prog w = .ok (.value (.pointer (some ⟨w.heap.size, 0, none⟩))) (w.alloc (numC l)) := by
  obtain ⟨x0, x1, x2, x3, x4, x5, x6, x7, x8, x9, rfl⟩ := ten hl
  have h : (Instr.box 54 (numV [x0, x1, x2, x3, x4, x5, x6, x7, x8, x9])).run Try.prog w = .ok (.pointer (some ⟨w.heap.size, 0, none⟩)) (w.alloc (numC [x0, x1, x2, x3, x4, x5, x6, x7, x8, x9])) := by kernel_rfl
  unfold execOp
  simp only [ho, hx, Sem.run_bind, h, Result.andThen_ok, Sem.run_pure]

theorem run_box90 {x : Operand} {l m : List Int} (ho : op.op = .box 90 x) (hx : a.eval x = numV (l ++ m)) (hl : l.length = 10) (hm : m.length = 10) :
    (execOp a.eval op).run Try.prog w = .ok (.value (.pointer (some ⟨w.heap.size, 0, none⟩))) (w.alloc (pairC l m)) := by
  obtain ⟨x0, x1, x2, x3, x4, x5, x6, x7, x8, x9, rfl⟩ := ten hl
  obtain ⟨y0, y1, y2, y3, y4, y5, y6, y7, y8, y9, rfl⟩ := ten hm
  have h : (Instr.box 90 (numV ([x0, x1, x2, x3, x4, x5, x6, x7, x8, x9] ++ [y0, y1, y2, y3, y4, y5, y6, y7, y8, y9]))).run Try.prog w = .ok (.pointer (some ⟨w.heap.size, 0, none⟩)) (w.alloc (pairC [x0, x1, x2, x3, x4, x5, x6, x7, x8, x9] [y0, y1, y2, y3, y4, y5, y6, y7, y8, y9])) := by kernel_rfl
  unfold execOp
  simp only [ho, hx, Sem.run_bind, h, Result.andThen_ok, Sem.run_pure]

theorem run_alloc54 (ho : op.op = .alloc 54) : (execOp a.eval op).run Try.prog w = .ok (.value (.pointer (some ⟨w.heap.size, 0, none⟩))) (w.alloc (numC zeroN)) := by
  have h : (Instr.alloc 54 true (.tuple #[])).run Try.prog w = .ok (.pointer (some ⟨w.heap.size, 0, none⟩)) (w.alloc (numC zeroN)) := by kernel_rfl
  unfold execOp
  simp only [ho, Sem.run_bind, h, Result.andThen_ok, Sem.run_pure]

theorem run_alloc90 (ho : op.op = .alloc 90) : (execOp a.eval op).run Try.prog w = .ok (.value (.pointer (some ⟨w.heap.size, 0, none⟩))) (w.alloc (pairC zeroN zeroN)) := by
  have h : (Instr.alloc 90 true (.tuple #[])).run Try.prog w = .ok (.pointer (some ⟨w.heap.size, 0, none⟩)) (w.alloc (pairC zeroN zeroN)) := by kernel_rfl
  unfold execOp
  simp only [ho, Sem.run_bind, h, Result.andThen_ok, Sem.run_pure]

theorem run_build90 {x y : Operand} {l m : List Int} (ho : op.op = .build 90 #[(0, x), (1, y)]) (hx : a.eval x = numV l) (hy : a.eval y = numV m) (hl : l.length = 10) (hm : m.length = 10) :
    (execOp a.eval op).run Try.prog w = .ok (.value (numV (l ++ m))) w := by
  obtain ⟨x0, x1, x2, x3, x4, x5, x6, x7, x8, x9, rfl⟩ := ten hl
  obtain ⟨y0, y1, y2, y3, y4, y5, y6, y7, y8, y9, rfl⟩ := ten hm
  have h : (Instr.build 90 #[(0, numV [x0, x1, x2, x3, x4, x5, x6, x7, x8, x9]), (1, numV [y0, y1, y2, y3, y4, y5, y6, y7, y8, y9])]).run Try.prog w = .ok (numV ([x0, x1, x2, x3, x4, x5, x6, x7, x8, x9] ++ [y0, y1, y2, y3, y4, y5, y6, y7, y8, y9])) w := by kernel_rfl
  unfold execOp
  simp only [ho, List.map_toArray, List.map_cons, List.map_nil, hx, hy, Sem.run_bind, h, Result.andThen_ok, Sem.run_pure]

theorem num_there {w : World} {g : Nat} {C : Array Value} {t : TypeId} (h : w.heap[g]? = some (.cells C t (0, 0))) {n : Nat} (hn : C.size = n) : w.there g 0 n := by
  intro j hj
  rw [Nat.zero_add, cell_blk h j]
  refine ⟨?_, frz_blk h j⟩
  rw [Array.getElem?_eq_getElem (by omega)]
  rfl

theorem int_cells (l : List Int) : (numA l).all (·.oneCell') = true := by
  rw [Array.all_eq_true_iff_forall_mem]
  intro v hv
  rw [numA_list, List.mem_toArray] at hv
  obtain ⟨n, hn, rfl⟩ := List.mem_map.1 hv
  rfl

/-- A store of a whole number. -/
theorem wp_store54 {x y : Operand} {g : Nat} {l z : List Int} (ho : op.op = .store 54 x y) (hx : a.eval x = .pointer (some ⟨g, 0, none⟩)) (hy : a.eval y = numV l) (hl : l.length = 10) (hz : z.length = 10) (hg : w.heap[g]? = some (numC z))
    (k : ∀ w', w'.heap[g]? = some (numC l) → Touch (fun i => i = g) w w' → K (a.put op.dst undef) w') : op.wp Try.prog a w K Q := by
  have hs : (numA l).size = 10 := by simp [numA, hl]
  refine wp_store_mid 54 x y ho g 0 (numA l) hx hy (num_there hg (by rw [hs]; simp [numA, hz])) (by rw [hs]; exact info54) (int_cells l) ?_
  refine k _ ?_ (touch_setCells _ _ _ _)
  have := heap_setCells_all (numA l).toList hg (by simp [numA, hl, hz])
  simpa [numC] using this

theorem wp_store90 {x y : Operand} {g : Nat} {l m z1 z2 : List Int} (ho : op.op = .store 90 x y) (hx : a.eval x = .pointer (some ⟨g, 0, none⟩)) (hy : a.eval y = numV (l ++ m)) (hl : l.length = 10) (hm : m.length = 10) (hz1 : z1.length = 10) (hz2 : z2.length = 10) (hg : w.heap[g]? = some (pairC z1 z2))
    (k : ∀ w', w'.heap[g]? = some (pairC l m) → Touch (fun i => i = g) w w' → K (a.put op.dst undef) w') : op.wp Try.prog a w K Q := by
  have hs : (numA (l ++ m)).size = 20 := by simp [numA, hl, hm]
  refine wp_store_mid 90 x y ho g 0 (numA (l ++ m)) hx hy (num_there hg (by rw [hs]; simp [numA, hz1, hz2])) (by rw [hs]; exact info90) (int_cells _) ?_
  refine k _ ?_ (touch_setCells _ _ _ _)
  have := heap_setCells_all (numA (l ++ m)).toList hg (by simp [numA, hl, hm, hz1, hz2])
  simpa [pairC] using this

theorem cf54 (args : Array Value) (w : World) : (callFunc 54 args).run Try.prog w = .ok (.enter 54 args) w := by kernel_rfl
theorem cf55 (args : Array Value) (w : World) : (callFunc 55 args).run Try.prog w = .ok (.enter 55 args) w := by kernel_rfl
theorem cf67 (args : Array Value) (w : World) : (callFunc 67 args).run Try.prog w = .ok (.enter 67 args) w := by kernel_rfl
theorem cf65 (args : Array Value) (w : World) : (callFunc 65 args).run Try.prog w = .ok (.enter 65 args) w := by kernel_rfl
theorem cf74 (args : Array Value) (w : World) : (callFunc 74 args).run Try.prog w = .ok (.enter 74 args) w := by kernel_rfl
theorem cf87 (args : Array Value) (w : World) : (callFunc 87 args).run Try.prog w = .ok (.enter 87 args) w := by kernel_rfl
theorem cf56 (args : Array Value) (w : World) : (callFunc 56 args).run Try.prog w = .ok (.enter 56 args) w := by kernel_rfl
theorem cf60 (args : Array Value) (w : World) : (callFunc 60 args).run Try.prog w = .ok (.enter 60 args) w := by kernel_rfl
theorem cf70 (args : Array Value) (w : World) : (callFunc 70 args).run Try.prog w = .ok (.enter 70 args) w := by kernel_rfl
theorem cf71 (args : Array Value) (w : World) : (callFunc 71 args).run Try.prog w = .ok (.enter 71 args) w := by kernel_rfl

/-- A call of a function by its contract. -/
theorem wp_callf {c : Call} {f : FuncId} {args : Array Value} {v : Value} {R : World → Prop} (hf : ∀ (args : Array Value) (w : World), (callFunc f args).run Try.prog w = .ok (.enter f args) w) (ho : op.op = .call c) (hc : c.callee = .value (.func f)) (ha : c.args.toList.map a.eval = args.toList)
    (h : Calls Try.prog f args w (fun r w' => r = .returned v ∧ R w')) (k : ∀ w', R w' → K (a.put op.dst v) w') : op.wp Try.prog a w K Q := by
  have ha2 : c.args.map a.eval = args := by
    apply Array.toList_inj.1
    rw [Array.toList_map]
    exact ha
  have e : (execOp a.eval op).run Try.prog w = .ok (.enter f args) w := by
    unfold execOp
    simp only [ho, resolve, hc, ha2]
    have e2 : a.eval (.func f) = .func (.func f) #[] #[] := rfl
    simp only [e2, Deferred.ofValue, invoke, Sem.run_bind, Sem.run_pure, Result.andThen_ok, Array.append_empty, Array.empty_append, hf]
  unfold Oper.wp
  rw [e]
  refine h.mono ?_
  rintro r w' ⟨rfl, hR⟩
  exact k w' hR

end

/-! In a region's list, and in a region that draws its order (there under the condition that nothing old has turned since W). -/
section
variable {a : Act} {w : World} {ops : Array Oper} {Q : Exit → Act → World → Prop} {op : Oper} {rest : List Oper} {md : Region.Mode} {S : World → Prop} {listed : Array Bool} {fuel : Nat}

theorem l_value {v : Value} {w' : World} (hg : op.guard = none) (h : (execOp a.eval op).run Try.prog w = .ok (.value v) w') (k : wpList Try.prog ops Q rest (a.put op.dst v) w') : wpList Try.prog ops Q (op :: rest) a w :=
  wpList_plain hg fun _ hK => wp_value h (hK _ _ k)

theorem l_call {c : Call} {f : FuncId} {args : Array Value} {v : Value} {R : World → Prop} (hg : op.guard = none) (hf : ∀ (args : Array Value) (w : World), (callFunc f args).run Try.prog w = .ok (.enter f args) w) (ho : op.op = .call c) (hc : c.callee = .value (.func f)) (ha : c.args.toList.map a.eval = args.toList)
    (h : Calls Try.prog f args w (fun r w' => r = .returned v ∧ R w')) (k : ∀ w', R w' → wpList Try.prog ops Q rest (a.put op.dst v) w') : wpList Try.prog ops Q (op :: rest) a w :=
  wpList_plain hg fun _ hK => wp_callf hf ho hc ha h fun w' hR => hK _ _ (k w' hR)

theorem l_store54 {x y : Operand} {g : Nat} {l z : List Int} (hgd : op.guard = none) (ho : op.op = .store 54 x y) (hx : a.eval x = .pointer (some ⟨g, 0, none⟩)) (hy : a.eval y = numV l) (hl : l.length = 10) (hz : z.length = 10) (hg : w.heap[g]? = some (numC z))
    (k : ∀ w', w'.heap[g]? = some (numC l) → Touch (fun i => i = g) w w' → wpList Try.prog ops Q rest (a.put op.dst undef) w') : wpList Try.prog ops Q (op :: rest) a w :=
  wpList_plain hgd fun _ hK => wp_store54 ho hx hy hl hz hg fun w' h t => hK _ _ (k w' h t)

theorem l_store90 {x y : Operand} {g : Nat} {l m z1 z2 : List Int} (hgd : op.guard = none) (ho : op.op = .store 90 x y) (hx : a.eval x = .pointer (some ⟨g, 0, none⟩)) (hy : a.eval y = numV (l ++ m)) (hl : l.length = 10) (hm : m.length = 10) (hz1 : z1.length = 10) (hz2 : z2.length = 10) (hg : w.heap[g]? = some (pairC z1 z2))
    (k : ∀ w', w'.heap[g]? = some (pairC l m) → Touch (fun i => i = g) w w' → wpList Try.prog ops Q rest (a.put op.dst undef) w') : wpList Try.prog ops Q (op :: rest) a w :=
  wpList_plain hgd fun _ hK => wp_store90 ho hx hy hl hm hz1 hz2 hg fun w' h t => hK _ _ (k w' h t)

theorem op_at {i : Nat} {tl : List Oper} (h : ops.toList.drop i = op :: tl) : ops[i]? = some op := by
  rw [← Array.getElem?_toList]
  have := congrArg List.head? h
  rwa [List.head?_drop] at this

theorem d_value {i : Nat} {v : Value} {tl : List Oper} (hi : ops.toList.drop i = op :: tl) (hs : Region.noSelect ops = true) (hf : Region.free md ops listed i = true) (hr : (Region.ready md ops listed).contains i = true)
    (hw : Region.wanted op (yielded ops a.tmps) = true) (hQ : ∀ c a w, Q (.panic c) (a.put op.dst v) w → Q (.panic c) a w) (h : ∀ w, S w → (execOp a.eval op).run Try.prog w = .ok (.value v) w) (hS : S w)
    (k : wpAnyH Try.prog md ops Q S fuel (listed.setIfInBounds i true) (a.put op.dst v) w) : wpAnyH Try.prog md ops Q S (fuel + 1) listed a w :=
  wpAnyH_take (op_at hi) hs hf hr hQ (Or.inl ⟨hw, h⟩) hS k

theorem d_step {i : Nat} (hr : Region.ready md ops listed = [i]) {tl : List Oper} (hi : ops.toList.drop i = op :: tl) (hw : Region.wanted op (yielded ops a.tmps) = true)
    (h : ∀ K : Act → World → Prop, (∀ a w, S w → wpAnyH Try.prog md ops Q S fuel (listed.setIfInBounds i true) a w → K a w) → op.wp Try.prog a w K Q) : wpAnyH Try.prog md ops Q S (fuel + 1) listed a w := by
  refine wpAnyH_ready hr (by simp) (AllReadyH.cons (op_at hi) (fun K hK => ?_) AllReadyH.nil)
  rw [if_pos hw]
  exact h K fun a w hS hW => hK a w hS fun _ => hW

/-- Two may come up: the one or the other. -/
theorem d_two {i m : Nat} {op2 : Oper} {tl tl2 : List Oper} (hr : Region.ready md ops listed = [i, m]) (hi : ops.toList.drop i = op :: tl) (hi2 : ops.toList.drop m = op2 :: tl2) (hw : Region.wanted op (yielded ops a.tmps) = true) (hw2 : Region.wanted op2 (yielded ops a.tmps) = true)
    (h : ∀ K : Act → World → Prop, (∀ a w, S w → wpAnyH Try.prog md ops Q S fuel (listed.setIfInBounds i true) a w → K a w) → op.wp Try.prog a w K Q)
    (h2 : ∀ K : Act → World → Prop, (∀ a w, S w → wpAnyH Try.prog md ops Q S fuel (listed.setIfInBounds m true) a w → K a w) → op2.wp Try.prog a w K Q) : wpAnyH Try.prog md ops Q S (fuel + 1) listed a w := by
  refine wpAnyH_ready hr (by simp) (AllReadyH.cons (op_at hi) (fun K hK => ?_) (AllReadyH.cons (op_at hi2) (fun K hK => ?_) AllReadyH.nil))
  · rw [if_pos hw]
    exact h K fun a w hS hW => hK a w hS fun _ => hW
  · rw [if_pos hw2]
    exact h2 K fun a w hS hW => hK a w hS fun _ => hW

theorem d_new {i : Nat} {v : Value} {w' : World} (hr : Region.ready md ops listed = [i]) {tl : List Oper} (hi : ops.toList.drop i = op :: tl) (hw : Region.wanted op (yielded ops a.tmps) = true)
    (h : (execOp a.eval op).run Try.prog w = .ok (.value v) w') (hS : S w') (k : wpAnyH Try.prog md ops Q S fuel (listed.setIfInBounds i true) (a.put op.dst v) w') : wpAnyH Try.prog md ops Q S (fuel + 1) listed a w :=
  d_step hr hi hw fun _ hK => wp_value h (hK _ _ hS k)

theorem d_call {i : Nat} {c : Call} {f : FuncId} {args : Array Value} {v : Value} {R : World → Prop} (hr : Region.ready md ops listed = [i]) {tl : List Oper} (hi : ops.toList.drop i = op :: tl) (hw : Region.wanted op (yielded ops a.tmps) = true) (hf : ∀ (args : Array Value) (w : World), (callFunc f args).run Try.prog w = .ok (.enter f args) w) (ho : op.op = .call c) (hc : c.callee = .value (.func f)) (ha : c.args.toList.map a.eval = args.toList)
    (h : Calls Try.prog f args w (fun r w' => r = .returned v ∧ R w')) (hS : ∀ w', R w' → S w') (k : ∀ w', R w' → wpAnyH Try.prog md ops Q S fuel (listed.setIfInBounds i true) (a.put op.dst v) w') : wpAnyH Try.prog md ops Q S (fuel + 1) listed a w :=
  d_step hr hi hw fun _ hK => wp_callf hf ho hc ha h fun w' hR => hK _ _ (hS w' hR) (k w' hR)

theorem d_store54 {i : Nat} {x y : Operand} {g : Nat} {l z : List Int} (hr : Region.ready md ops listed = [i]) {tl : List Oper} (hi : ops.toList.drop i = op :: tl) (hw : Region.wanted op (yielded ops a.tmps) = true) (ho : op.op = .store 54 x y) (hx : a.eval x = .pointer (some ⟨g, 0, none⟩)) (hy : a.eval y = numV l) (hl : l.length = 10) (hz : z.length = 10) (hg : w.heap[g]? = some (numC z))
    (hS : ∀ w', Touch (fun i => i = g) w w' → S w') (k : ∀ w', w'.heap[g]? = some (numC l) → Touch (fun i => i = g) w w' → wpAnyH Try.prog md ops Q S fuel (listed.setIfInBounds i true) (a.put op.dst undef) w') : wpAnyH Try.prog md ops Q S (fuel + 1) listed a w :=
  d_step hr hi hw fun _ hK => wp_store54 ho hx hy hl hz hg fun w' h t => hK _ _ (hS w' t) (k w' h t)

theorem d_store90 {i : Nat} {x y : Operand} {g : Nat} {l m z1 z2 : List Int} (hr : Region.ready md ops listed = [i]) {tl : List Oper} (hi : ops.toList.drop i = op :: tl) (hw : Region.wanted op (yielded ops a.tmps) = true) (ho : op.op = .store 90 x y) (hx : a.eval x = .pointer (some ⟨g, 0, none⟩)) (hy : a.eval y = numV (l ++ m)) (hl : l.length = 10) (hm : m.length = 10) (hz1 : z1.length = 10) (hz2 : z2.length = 10) (hg : w.heap[g]? = some (pairC z1 z2))
    (hS : ∀ w', Touch (fun i => i = g) w w' → S w') (k : ∀ w', w'.heap[g]? = some (pairC l m) → Touch (fun i => i = g) w w' → wpAnyH Try.prog md ops Q S fuel (listed.setIfInBounds i true) (a.put op.dst undef) w') : wpAnyH Try.prog md ops Q S (fuel + 1) listed a w :=
  d_step hr hi hw fun _ hK => wp_store90 ho hx hy hl hm hz1 hz2 hg fun w' h t => hK _ _ (hS w' t) (k w' h t)

end

theorem nothing_new {W w' w'' : World} {g : Nat} (h : Touch Nothing W w') (hg : W.heap.size ≤ g) (t : Touch (fun i => i = g) w' w'') : Touch Nothing W w'' := h.trans t fun i hi q => by omega

theorem heap_new (w : World) (o : Obj) : (w.alloc o).heap[w.heap.size]? = some o := heap_alloc_new w o

end Go.Proofs.Ytfnmnmjpcamkiaa

namespace Go.Proofs.Ytfnmnmjpcamkiaa
open Go.RowKit
set_option linter.unusedVariables false
set_option linter.unusedSimpArgs false

theorem plus_tr (w : World) (x y z : Int) (hx : Rng x) (hy : Rng y) (hz : z = addZ x y) : Calls Try.prog 54 #[numV (canL x 10), numV (canL y 10)] w fun r w' => r = .returned (numV (canL z 10)) ∧ Touch Nothing w w' := by
  subst hz; exact Plus_ref w x y hx hy
theorem less_tr (w : World) (x y z : Int) (hx : Rng x) (hy : Rng y) (hz : z = subZ x y) : Calls Try.prog 67 #[numV (canL x 10), numV (canL y 10)] w fun r w' => r = .returned (numV (canL z 10)) ∧ Touch Nothing w w' := by
  subst hz; exact Less_ref w x y hx hy
theorem times_tr (w : World) (x y z : Int) (hx : Rng x) (hy : Rng y) (hz : z = mulZ x y) : Calls Try.prog 55 #[numV (canL x 10), numV (canL y 10)] w fun r w' => r = .returned (numV (canL z 10)) ∧ Touch Nothing w w' := by
  subst hz; exact Times_ref w x y hx hy

theorem run_const {a : Act} {w : World} {op : Oper} (ho : op.op = .build 54 #[(0, .const (.int .i64 121665))]) : (execOp a.eval op).run Try.prog w = .ok (.value (numV (canL 121665 10))) w := by
  have h : (Instr.build 54 #[(0, .int .i64 121665)]).run Try.prog w = .ok (numV (canL 121665 10)) w := by kernel_rfl
  have e : a.eval (.const (.int .i64 121665)) = .int .i64 121665 := rfl
  unfold execOp
  simp only [ho, List.map_toArray, List.map_cons, List.map_nil, e, Sem.run_bind, h, Result.andThen_ok, Sem.run_pure]

/-- Two pairs as the result. -/
theorem ret_pairs {fn : Func} {p q : Tmp} (h : fn.results = #[.cell p 90, .cell q 90]) {tmps : Array Value} {w : World} {b c : Nat} {l m l2 m2 : List Int} (hp : tmps.getD p undef = .pointer (some ⟨b, 0, none⟩)) (hq : tmps.getD q undef = .pointer (some ⟨c, 0, none⟩))
    (h1 : l.length = 10) (h2 : m.length = 10) (h3 : l2.length = 10) (h4 : m2.length = 10) (hb : w.heap[b]? = some (pairC l m)) (hc : w.heap[c]? = some (pairC l2 m2)) : (results fn tmps).run Try.prog w = .ok (.tuple #[numV (l ++ m), numV (l2 ++ m2)]) w := by
  have i1 : (Try.prog.info? 90).map (·.size) = some ((l ++ m).map (Value.int .i64)).length := by rw [List.length_map, List.length_append, h1, h2]; exact info90
  have i2 : (Try.prog.info? 90).map (·.size) = some ((l2 ++ m2).map (Value.int .i64)).length := by rw [List.length_map, List.length_append, h3, h4]; exact info90
  have l1 := run_loadVar_mid (P := Try.prog) w b 0 90 _ _ (rng_pair hb) Try.underlying90 rfl i1
  have l2 := run_loadVar_mid (P := Try.prog) w c 0 90 _ _ (rng_pair hc) Try.underlying90 rfl i2
  have hp' : tmps[p]?.getD undef = .pointer (some ⟨b, 0, none⟩) := by simpa using hp
  have hq' : tmps[q]?.getD undef = .pointer (some ⟨c, 0, none⟩) := by simpa using hq
  simp only [results, h]
  simp [hp', hq', asAddr, l1, l2, numV, numA]

/-- The step: the double of p, and the sum of p and q (their difference is u). -/
def zP (x2 z2 : Int) : Int × Int :=
  let aa := mulZ (addZ x2 z2) (addZ x2 z2)
  let bb := mulZ (subZ x2 z2) (subZ x2 z2)
  let e := subZ aa bb
  (mulZ aa bb, mulZ e (addZ aa (mulZ 121665 e)))

def zQ (u x2 z2 x3 z3 : Int) : Int × Int :=
  let da := mulZ (subZ x3 z3) (addZ x2 z2)
  let cb := mulZ (addZ x3 z3) (subZ x2 z2)
  (mulZ (addZ da cb) (addZ da cb), mulZ u (mulZ (subZ da cb) (subZ da cb)))

set_option maxRecDepth 100000 in
set_option maxHeartbeats 6400000 in
theorem step_ref (w : World) (u x2 z2 x3 z3 : Int) (hu : Rng u) (hx2 : Rng x2) (hz2 : Rng z2) (hx3 : Rng x3) (hz3 : Rng z3) :
    Calls Try.prog 87 #[numV (canL u 10), numV (canL x2 10 ++ canL z2 10), numV (canL x3 10 ++ canL z3 10)] w fun r w' => r = .returned (.tuple #[numV (canL (zP x2 z2).1 10 ++ canL (zP x2 z2).2 10), numV (canL (zQ u x2 z2 x3 z3).1 10 ++ canL (zQ u x2 z2 x3 z3).2 10)]) ∧ Touch Nothing w w' := by
  have hconst : Rng 121665 := by unfold Rng PP; omega
  obtain ⟨a, ea⟩ : ∃ t, t = addZ x2 z2 := ⟨_, rfl⟩
  have ha : Rng a := by rw [ea]; exact rng_add _ _
  obtain ⟨b, eb⟩ : ∃ t, t = subZ x2 z2 := ⟨_, rfl⟩
  have hb : Rng b := by rw [eb]; exact rng_sub _ _
  obtain ⟨aa, eaa⟩ : ∃ t, t = mulZ a a := ⟨_, rfl⟩
  have haa : Rng aa := by rw [eaa]; exact rng_mul _ _
  obtain ⟨bb, ebb⟩ : ∃ t, t = mulZ b b := ⟨_, rfl⟩
  have hbb : Rng bb := by rw [ebb]; exact rng_mul _ _
  obtain ⟨e, ee⟩ : ∃ t, t = subZ aa bb := ⟨_, rfl⟩
  have he : Rng e := by rw [ee]; exact rng_sub _ _
  obtain ⟨q1, eq1⟩ : ∃ t, t = subZ x3 z3 := ⟨_, rfl⟩
  have hq1 : Rng q1 := by rw [eq1]; exact rng_sub _ _
  obtain ⟨da, eda⟩ : ∃ t, t = mulZ q1 a := ⟨_, rfl⟩
  have hda : Rng da := by rw [eda]; exact rng_mul _ _
  obtain ⟨q2, eq2⟩ : ∃ t, t = addZ x3 z3 := ⟨_, rfl⟩
  have hq2 : Rng q2 := by rw [eq2]; exact rng_add _ _
  obtain ⟨cb, ecb⟩ : ∃ t, t = mulZ q2 b := ⟨_, rfl⟩
  have hcb : Rng cb := by rw [ecb]; exact rng_mul _ _
  obtain ⟨s, es⟩ : ∃ t, t = addZ da cb := ⟨_, rfl⟩
  have hs : Rng s := by rw [es]; exact rng_add _ _
  obtain ⟨d, ed⟩ : ∃ t, t = subZ da cb := ⟨_, rfl⟩
  have hd : Rng d := by rw [ed]; exact rng_sub _ _
  obtain ⟨nx, enx⟩ : ∃ t, t = mulZ s s := ⟨_, rfl⟩
  have hnx : Rng nx := by rw [enx]; exact rng_mul _ _
  obtain ⟨dd, edd⟩ : ∃ t, t = mulZ d d := ⟨_, rfl⟩
  have hdd : Rng dd := by rw [edd]; exact rng_mul _ _
  obtain ⟨nz, enz⟩ : ∃ t, t = mulZ u dd := ⟨_, rfl⟩
  have hnz : Rng nz := by rw [enz]; exact rng_mul _ _
  obtain ⟨tx, etx⟩ : ∃ t, t = mulZ aa bb := ⟨_, rfl⟩
  have htx : Rng tx := by rw [etx]; exact rng_mul _ _
  obtain ⟨ce, ece⟩ : ∃ t, t = mulZ 121665 e := ⟨_, rfl⟩
  have hce : Rng ce := by rw [ece]; exact rng_mul _ _
  obtain ⟨ac, eac⟩ : ∃ t, t = addZ aa ce := ⟨_, rfl⟩
  have hac : Rng ac := by rw [eac]; exact rng_add _ _
  obtain ⟨tz, etz⟩ : ∃ t, t = mulZ e ac := ⟨_, rfl⟩
  have htz : Rng tz := by rw [etz]; exact rng_mul _ _
  have f1 : zP x2 z2 = (tx, tz) := by unfold zP; simp only []; rw [← ea, ← eb, ← eaa, ← ebb, ← ee, ← etx, ← ece, ← eac, ← etz]
  have f2 : zQ u x2 z2 x3 z3 = (nx, nz) := by unfold zQ; simp only []; rw [← ea, ← eb, ← eq1, ← eq2, ← eda, ← ecb, ← es, ← ed, ← enx, ← edd, ← enz]
  rw [f1, f2]
  clear f1 f2
  go_enter Try.func87, Try.ntmps87
  go_upto_region 0 with fail
  refine wp_region_list ?_
  have tt : Touch Nothing w w := Touch.refl _ _
  refine l_value rfl (run_box54 rfl rfl (canL_length _ _)) ?_
  simp only [Act.put, List.setIfInBounds_toArray, List.set_cons_zero, List.set_cons_succ]
  have hn := heap_new w (numC (canL u 10))
  have tn := (Touch.refl Nothing w).alloc (numC (canL u 10))
  replace tt := tt.trans' tn
  obtain ⟨w3, ew3⟩ : ∃ v, v = w.alloc (numC (canL u 10)) := ⟨_, rfl⟩
  rw [← ew3] at hn tn tt ⊢
  obtain ⟨g3, eg3⟩ : ∃ g, g = w.heap.size := ⟨_, rfl⟩
  rw [← eg3] at hn ⊢
  clear ew3 eg3
  have h3 := hn
  clear hn tn
  refine l_value rfl (run_box90 rfl rfl (canL_length _ _) (canL_length _ _)) ?_
  simp only [Act.put, List.setIfInBounds_toArray, List.set_cons_zero, List.set_cons_succ]
  have hn := heap_new w3 (pairC (canL x2 10) (canL z2 10))
  have tn := (Touch.refl Nothing w3).alloc (pairC (canL x2 10) (canL z2 10))
  replace h3 := tn.heap h3 (fun q => q)
  replace tt := tt.trans' tn
  obtain ⟨w4, ew4⟩ : ∃ v, v = w3.alloc (pairC (canL x2 10) (canL z2 10)) := ⟨_, rfl⟩
  rw [← ew4] at hn tn tt h3 ⊢
  obtain ⟨g4, eg4⟩ : ∃ g, g = w3.heap.size := ⟨_, rfl⟩
  rw [← eg4] at hn ⊢
  clear ew4 eg4
  have h4 := hn
  clear hn tn
  refine l_value rfl (run_box90 rfl rfl (canL_length _ _) (canL_length _ _)) ?_
  simp only [Act.put, List.setIfInBounds_toArray, List.set_cons_zero, List.set_cons_succ]
  have hn := heap_new w4 (pairC (canL x3 10) (canL z3 10))
  have tn := (Touch.refl Nothing w4).alloc (pairC (canL x3 10) (canL z3 10))
  replace h3 := tn.heap h3 (fun q => q)
  replace h4 := tn.heap h4 (fun q => q)
  replace tt := tt.trans' tn
  obtain ⟨w5, ew5⟩ : ∃ v, v = w4.alloc (pairC (canL x3 10) (canL z3 10)) := ⟨_, rfl⟩
  rw [← ew5] at hn tn tt h3 h4 ⊢
  obtain ⟨g5, eg5⟩ : ∃ g, g = w4.heap.size := ⟨_, rfl⟩
  rw [← eg5] at hn ⊢
  clear ew5 eg5
  have h5 := hn
  clear hn tn
  refine l_value rfl (run_alloc90 rfl) ?_
  simp only [Act.put, List.setIfInBounds_toArray, List.set_cons_zero, List.set_cons_succ]
  have hn := heap_new w5 (pairC zeroN zeroN)
  have tn := (Touch.refl Nothing w5).alloc (pairC zeroN zeroN)
  have b6 := tt.size
  replace h3 := tn.heap h3 (fun q => q)
  replace h4 := tn.heap h4 (fun q => q)
  replace h5 := tn.heap h5 (fun q => q)
  replace tt := tt.trans' tn
  obtain ⟨w6, ew6⟩ : ∃ v, v = w5.alloc (pairC zeroN zeroN) := ⟨_, rfl⟩
  rw [← ew6] at hn tn tt h3 h4 h5 ⊢
  obtain ⟨g6, eg6⟩ : ∃ g, g = w5.heap.size := ⟨_, rfl⟩
  rw [← eg6] at hn b6 ⊢
  clear ew6 eg6
  have h6 := hn
  clear hn tn
  refine l_value rfl (run_alloc90 rfl) ?_
  simp only [Act.put, List.setIfInBounds_toArray, List.set_cons_zero, List.set_cons_succ]
  have hn := heap_new w6 (pairC zeroN zeroN)
  have tn := (Touch.refl Nothing w6).alloc (pairC zeroN zeroN)
  have b7 := tt.size
  have n67 := lt_of_heap h6
  replace h3 := tn.heap h3 (fun q => q)
  replace h4 := tn.heap h4 (fun q => q)
  replace h5 := tn.heap h5 (fun q => q)
  replace h6 := tn.heap h6 (fun q => q)
  replace tt := tt.trans' tn
  obtain ⟨w7, ew7⟩ : ∃ v, v = w6.alloc (pairC zeroN zeroN) := ⟨_, rfl⟩
  rw [← ew7] at hn tn tt h3 h4 h5 h6 ⊢
  obtain ⟨g7, eg7⟩ : ∃ g, g = w6.heap.size := ⟨_, rfl⟩
  rw [← eg7] at hn b7 n67 ⊢
  clear ew7 eg7
  have h7 := hn
  clear hn tn
  refine wpList_nil ?_
  go_upto_region 1 with fail
  refine wp_region_list ?_
  have tc : Touch Nothing w7 w7 := Touch.refl _ _
  refine l_value rfl (run_fst rfl rfl) ?_
  simp only [Act.put, List.setIfInBounds_toArray, List.set_cons_zero, List.set_cons_succ]
  refine l_value rfl (run_load54 rfl rfl (rng_fst (tc.heap h4 (fun q => q))) (canL_length _ _)) ?_
  simp only [Act.put, List.setIfInBounds_toArray, List.set_cons_zero, List.set_cons_succ]
  refine l_value rfl (run_snd rfl rfl) ?_
  simp only [Act.put, List.setIfInBounds_toArray, List.set_cons_zero, List.set_cons_succ]
  refine l_value rfl (run_load54 rfl rfl (rng_snd (canL_length _ _) (tc.heap h4 (fun q => q))) (canL_length _ _)) ?_
  simp only [Act.put, List.setIfInBounds_toArray, List.set_cons_zero, List.set_cons_succ]
  refine l_call (args := #[numV (canL x2 10), numV (canL z2 10)]) rfl cf54 rfl rfl rfl (plus_tr _ x2 z2 a hx2 hz2 ea) (fun v1 tn => ?_)
  replace tc := tc.trans' tn
  clear tn
  simp only [Act.put, List.setIfInBounds_toArray, List.set_cons_zero, List.set_cons_succ]
  refine l_value rfl (run_alloc54 rfl) ?_
  simp only [Act.put, List.setIfInBounds_toArray, List.set_cons_zero, List.set_cons_succ]
  refine l_store54 rfl rfl rfl rfl (canL_length _ _) rfl (heap_new _ _) (fun v2 hn tn => ?_)
  replace tn := nothing_new ((Touch.refl Nothing v1).alloc _) (Nat.le_refl _) tn
  replace tc := tc.trans' tn
  obtain ⟨g8, eg8⟩ : ∃ g, g = v1.heap.size := ⟨_, rfl⟩
  rw [← eg8] at hn ⊢
  clear eg8 tn
  simp only [Act.put, List.setIfInBounds_toArray, List.set_cons_zero, List.set_cons_succ]
  refine wpList_nil ?_
  replace h3 := tc.heap h3 (fun q => q)
  replace h4 := tc.heap h4 (fun q => q)
  replace h5 := tc.heap h5 (fun q => q)
  replace h6 := tc.heap h6 (fun q => q)
  replace h7 := tc.heap h7 (fun q => q)
  replace tt := tt.trans' tc
  clear tc
  have h8 := hn
  clear hn
  go_upto_region 2 with fail
  refine wp_region_list ?_
  have tc : Touch Nothing v2 v2 := Touch.refl _ _
  refine l_value rfl (run_fst rfl rfl) ?_
  simp only [Act.put, List.setIfInBounds_toArray, List.set_cons_zero, List.set_cons_succ]
  refine l_value rfl (run_load54 rfl rfl (rng_fst (tc.heap h4 (fun q => q))) (canL_length _ _)) ?_
  simp only [Act.put, List.setIfInBounds_toArray, List.set_cons_zero, List.set_cons_succ]
  refine l_value rfl (run_snd rfl rfl) ?_
  simp only [Act.put, List.setIfInBounds_toArray, List.set_cons_zero, List.set_cons_succ]
  refine l_value rfl (run_load54 rfl rfl (rng_snd (canL_length _ _) (tc.heap h4 (fun q => q))) (canL_length _ _)) ?_
  simp only [Act.put, List.setIfInBounds_toArray, List.set_cons_zero, List.set_cons_succ]
  refine l_call (args := #[numV (canL x2 10), numV (canL z2 10)]) rfl cf67 rfl rfl rfl (less_tr _ x2 z2 b hx2 hz2 eb) (fun v3 tn => ?_)
  replace tc := tc.trans' tn
  clear tn
  simp only [Act.put, List.setIfInBounds_toArray, List.set_cons_zero, List.set_cons_succ]
  refine l_value rfl (run_alloc54 rfl) ?_
  simp only [Act.put, List.setIfInBounds_toArray, List.set_cons_zero, List.set_cons_succ]
  refine l_store54 rfl rfl rfl rfl (canL_length _ _) rfl (heap_new _ _) (fun v4 hn tn => ?_)
  replace tn := nothing_new ((Touch.refl Nothing v3).alloc _) (Nat.le_refl _) tn
  replace tc := tc.trans' tn
  obtain ⟨g9, eg9⟩ : ∃ g, g = v3.heap.size := ⟨_, rfl⟩
  rw [← eg9] at hn ⊢
  clear eg9 tn
  simp only [Act.put, List.setIfInBounds_toArray, List.set_cons_zero, List.set_cons_succ]
  refine wpList_nil ?_
  replace h3 := tc.heap h3 (fun q => q)
  replace h4 := tc.heap h4 (fun q => q)
  replace h5 := tc.heap h5 (fun q => q)
  replace h6 := tc.heap h6 (fun q => q)
  replace h7 := tc.heap h7 (fun q => q)
  replace h8 := tc.heap h8 (fun q => q)
  replace tt := tt.trans' tc
  clear tc
  have h9 := hn
  clear hn
  go_upto_region 3 with fail
  refine wp_region_list ?_
  have tc : Touch Nothing v4 v4 := Touch.refl _ _
  refine l_value rfl (run_load54 rfl rfl (rng_num (tc.heap h8 (fun q => q))) (canL_length _ _)) ?_
  simp only [Act.put, List.setIfInBounds_toArray, List.set_cons_zero, List.set_cons_succ]
  refine l_value rfl (run_load54 rfl rfl (rng_num (tc.heap h8 (fun q => q))) (canL_length _ _)) ?_
  simp only [Act.put, List.setIfInBounds_toArray, List.set_cons_zero, List.set_cons_succ]
  refine l_call (args := #[numV (canL a 10), numV (canL a 10)]) rfl cf55 rfl rfl rfl (times_tr _ a a aa ha ha eaa) (fun v5 tn => ?_)
  replace tc := tc.trans' tn
  clear tn
  simp only [Act.put, List.setIfInBounds_toArray, List.set_cons_zero, List.set_cons_succ]
  refine l_value rfl (run_alloc54 rfl) ?_
  simp only [Act.put, List.setIfInBounds_toArray, List.set_cons_zero, List.set_cons_succ]
  refine l_store54 rfl rfl rfl rfl (canL_length _ _) rfl (heap_new _ _) (fun v6 hn tn => ?_)
  replace tn := nothing_new ((Touch.refl Nothing v5).alloc _) (Nat.le_refl _) tn
  replace tc := tc.trans' tn
  obtain ⟨g10, eg10⟩ : ∃ g, g = v5.heap.size := ⟨_, rfl⟩
  rw [← eg10] at hn ⊢
  clear eg10 tn
  simp only [Act.put, List.setIfInBounds_toArray, List.set_cons_zero, List.set_cons_succ]
  refine wpList_nil ?_
  replace h3 := tc.heap h3 (fun q => q)
  replace h4 := tc.heap h4 (fun q => q)
  replace h5 := tc.heap h5 (fun q => q)
  replace h6 := tc.heap h6 (fun q => q)
  replace h7 := tc.heap h7 (fun q => q)
  replace h8 := tc.heap h8 (fun q => q)
  replace h9 := tc.heap h9 (fun q => q)
  replace tt := tt.trans' tc
  clear tc
  have h10 := hn
  clear hn
  go_upto_region 4 with fail
  refine wp_region_list ?_
  have tc : Touch Nothing v6 v6 := Touch.refl _ _
  refine l_value rfl (run_load54 rfl rfl (rng_num (tc.heap h9 (fun q => q))) (canL_length _ _)) ?_
  simp only [Act.put, List.setIfInBounds_toArray, List.set_cons_zero, List.set_cons_succ]
  refine l_value rfl (run_load54 rfl rfl (rng_num (tc.heap h9 (fun q => q))) (canL_length _ _)) ?_
  simp only [Act.put, List.setIfInBounds_toArray, List.set_cons_zero, List.set_cons_succ]
  refine l_call (args := #[numV (canL b 10), numV (canL b 10)]) rfl cf55 rfl rfl rfl (times_tr _ b b bb hb hb ebb) (fun v7 tn => ?_)
  replace tc := tc.trans' tn
  clear tn
  simp only [Act.put, List.setIfInBounds_toArray, List.set_cons_zero, List.set_cons_succ]
  refine l_value rfl (run_alloc54 rfl) ?_
  simp only [Act.put, List.setIfInBounds_toArray, List.set_cons_zero, List.set_cons_succ]
  refine l_store54 rfl rfl rfl rfl (canL_length _ _) rfl (heap_new _ _) (fun v8 hn tn => ?_)
  replace tn := nothing_new ((Touch.refl Nothing v7).alloc _) (Nat.le_refl _) tn
  replace tc := tc.trans' tn
  obtain ⟨g11, eg11⟩ : ∃ g, g = v7.heap.size := ⟨_, rfl⟩
  rw [← eg11] at hn ⊢
  clear eg11 tn
  simp only [Act.put, List.setIfInBounds_toArray, List.set_cons_zero, List.set_cons_succ]
  refine wpList_nil ?_
  replace h3 := tc.heap h3 (fun q => q)
  replace h4 := tc.heap h4 (fun q => q)
  replace h5 := tc.heap h5 (fun q => q)
  replace h6 := tc.heap h6 (fun q => q)
  replace h7 := tc.heap h7 (fun q => q)
  replace h8 := tc.heap h8 (fun q => q)
  replace h9 := tc.heap h9 (fun q => q)
  replace h10 := tc.heap h10 (fun q => q)
  replace tt := tt.trans' tc
  clear tc
  have h11 := hn
  clear hn
  go_upto_region 5 with fail
  refine wp_region_list ?_
  have tc : Touch Nothing v8 v8 := Touch.refl _ _
  refine l_value rfl (run_load54 rfl rfl (rng_num (tc.heap h10 (fun q => q))) (canL_length _ _)) ?_
  simp only [Act.put, List.setIfInBounds_toArray, List.set_cons_zero, List.set_cons_succ]
  refine l_value rfl (run_load54 rfl rfl (rng_num (tc.heap h11 (fun q => q))) (canL_length _ _)) ?_
  simp only [Act.put, List.setIfInBounds_toArray, List.set_cons_zero, List.set_cons_succ]
  refine l_call (args := #[numV (canL aa 10), numV (canL bb 10)]) rfl cf67 rfl rfl rfl (less_tr _ aa bb e haa hbb ee) (fun v9 tn => ?_)
  replace tc := tc.trans' tn
  clear tn
  simp only [Act.put, List.setIfInBounds_toArray, List.set_cons_zero, List.set_cons_succ]
  refine l_value rfl (run_alloc54 rfl) ?_
  simp only [Act.put, List.setIfInBounds_toArray, List.set_cons_zero, List.set_cons_succ]
  refine l_store54 rfl rfl rfl rfl (canL_length _ _) rfl (heap_new _ _) (fun v10 hn tn => ?_)
  replace tn := nothing_new ((Touch.refl Nothing v9).alloc _) (Nat.le_refl _) tn
  replace tc := tc.trans' tn
  obtain ⟨g12, eg12⟩ : ∃ g, g = v9.heap.size := ⟨_, rfl⟩
  rw [← eg12] at hn ⊢
  clear eg12 tn
  simp only [Act.put, List.setIfInBounds_toArray, List.set_cons_zero, List.set_cons_succ]
  refine wpList_nil ?_
  replace h3 := tc.heap h3 (fun q => q)
  replace h4 := tc.heap h4 (fun q => q)
  replace h5 := tc.heap h5 (fun q => q)
  replace h6 := tc.heap h6 (fun q => q)
  replace h7 := tc.heap h7 (fun q => q)
  replace h8 := tc.heap h8 (fun q => q)
  replace h9 := tc.heap h9 (fun q => q)
  replace h10 := tc.heap h10 (fun q => q)
  replace h11 := tc.heap h11 (fun q => q)
  replace tt := tt.trans' tc
  clear tc
  have h12 := hn
  clear hn
  go_upto_region 6 with fail
  go_cut [13] (fun v wx => ∃ g : Nat, v = .pointer (some ⟨g, 0, none⟩) ∧ wx.heap[g]? = some (numC (canL da 10)) ∧ v10.heap.size ≤ g ∧ Touch Nothing v10 wx)
  case first =>
    refine wp_region_held_drew (S := fun w' => Touch Nothing v10 w') (by kernel_rfl) ((Touch.refl Nothing v10).drew) (fun tc => ?_)
    refine d_value (i := 0) rfl (by kernel_rfl) (by kernel_rfl) (by kernel_rfl) rfl (fun _ _ _ h => h) (fun w9 hS => run_fst rfl rfl) tc ?_
    simp only [Act.put, List.setIfInBounds_toArray, List.set_cons_zero, List.set_cons_succ]
    refine d_value (i := 1) rfl (by kernel_rfl) (by kernel_rfl) (by kernel_rfl) rfl (fun _ _ _ h => h) (fun w9 hS => run_load54 rfl rfl (rng_fst (hS.heap h5 (fun q => q))) (canL_length _ _)) tc ?_
    simp only [Act.put, List.setIfInBounds_toArray, List.set_cons_zero, List.set_cons_succ]
    refine d_value (i := 2) rfl (by kernel_rfl) (by kernel_rfl) (by kernel_rfl) rfl (fun _ _ _ h => h) (fun w9 hS => run_snd rfl rfl) tc ?_
    simp only [Act.put, List.setIfInBounds_toArray, List.set_cons_zero, List.set_cons_succ]
    refine d_value (i := 3) rfl (by kernel_rfl) (by kernel_rfl) (by kernel_rfl) rfl (fun _ _ _ h => h) (fun w9 hS => run_load54 rfl rfl (rng_snd (canL_length _ _) (hS.heap h5 (fun q => q))) (canL_length _ _)) tc ?_
    simp only [Act.put, List.setIfInBounds_toArray, List.set_cons_zero, List.set_cons_succ]
    refine d_value (i := 5) rfl (by kernel_rfl) (by kernel_rfl) (by kernel_rfl) rfl (fun _ _ _ h => h) (fun w9 hS => run_load54 rfl rfl (rng_num (hS.heap h8 (fun q => q))) (canL_length _ _)) tc ?_
    simp only [Act.put, List.setIfInBounds_toArray, List.set_cons_zero, List.set_cons_succ]
    refine d_two (i := 4) (m := 7) (by kernel_rfl) rfl rfl rfl rfl (fun K hK => ?_) (fun K hK => ?_)
    · refine wp_callf (args := #[numV (canL x3 10), numV (canL z3 10)]) cf67 rfl rfl rfl (less_tr _ x3 z3 q1 hx3 hz3 eq1) (fun wn0 tn => ?_)
      refine hK _ _ (tc.trans' tn) ?_
      clear hK K
      simp only [Act.put, List.setIfInBounds_toArray, List.set_cons_zero, List.set_cons_succ]
      replace tc := tc.trans' tn
      clear tn
      refine d_two (i := 6) (m := 7) (by kernel_rfl) rfl rfl rfl rfl (fun K hK => ?_) (fun K hK => ?_)
      · refine wp_callf (args := #[numV (canL q1 10), numV (canL a 10)]) cf55 rfl rfl rfl (times_tr _ q1 a da hq1 ha eda) (fun wn1 tn => ?_)
        refine hK _ _ (tc.trans' tn) ?_
        clear hK K
        simp only [Act.put, List.setIfInBounds_toArray, List.set_cons_zero, List.set_cons_succ]
        replace tc := tc.trans' tn
        clear tn
        refine d_new (i := 7) (by kernel_rfl) rfl rfl (run_alloc54 rfl) (tc.alloc _) ?_
        simp only [Act.put, List.setIfInBounds_toArray, List.set_cons_zero, List.set_cons_succ]
        have hz := heap_new (wn1) (numC zeroN)
        have gn := tc.size
        replace tc := tc.alloc (numC zeroN)
        refine d_store54 (i := 8) (by kernel_rfl) rfl rfl rfl rfl rfl (canL_length _ _) rfl hz (fun _ t => nothing_new tc gn t) (fun wz hn tn => ?_)
        simp only [Act.put, List.setIfInBounds_toArray, List.set_cons_zero, List.set_cons_succ]
        refine wpAnyH_done (by kernel_rfl) ?_ _
        have hh := Lib.hid (And.intro hn (And.intro gn (nothing_new tc gn tn)))
        clear hn gn tc tn hz tt h3 h4 h5 h6 h7 h8 h9 h10 h11 h12
        go_wp2_with fail
        go_meet
        exact ⟨_, rfl, hh.out.1, hh.out.2.1, hh.out.2.2⟩
      · refine wp_value (run_alloc54 rfl) (hK _ _ (tc.alloc _) ?_)
        clear hK K
        simp only [Act.put, List.setIfInBounds_toArray, List.set_cons_zero, List.set_cons_succ]
        have hz := heap_new (wn0) (numC zeroN)
        have gn := tc.size
        replace tc := tc.alloc (numC zeroN)
        refine d_call (args := #[numV (canL q1 10), numV (canL a 10)]) (i := 6) (by kernel_rfl) rfl rfl cf55 rfl rfl rfl (times_tr _ q1 a da hq1 ha eda) (fun _ t => tc.trans' t) (fun wn tn => ?_)
        simp only [Act.put, List.setIfInBounds_toArray, List.set_cons_zero, List.set_cons_succ]
        replace hz := tn.heap hz (fun q => q)
        replace tc := tc.trans' tn
        clear tn
        refine d_store54 (i := 8) (by kernel_rfl) rfl rfl rfl rfl rfl (canL_length _ _) rfl hz (fun _ t => nothing_new tc gn t) (fun wz hn tn => ?_)
        simp only [Act.put, List.setIfInBounds_toArray, List.set_cons_zero, List.set_cons_succ]
        refine wpAnyH_done (by kernel_rfl) ?_ _
        have hh := Lib.hid (And.intro hn (And.intro gn (nothing_new tc gn tn)))
        clear hn gn tc tn hz tt h3 h4 h5 h6 h7 h8 h9 h10 h11 h12
        go_wp2_with fail
        go_meet
        exact ⟨_, rfl, hh.out.1, hh.out.2.1, hh.out.2.2⟩
    · refine wp_value (run_alloc54 rfl) (hK _ _ (tc.alloc _) ?_)
      clear hK K
      simp only [Act.put, List.setIfInBounds_toArray, List.set_cons_zero, List.set_cons_succ]
      have hz := heap_new (v10.drew) (numC zeroN)
      have gn := tc.size
      replace tc := tc.alloc (numC zeroN)
      refine d_call (args := #[numV (canL x3 10), numV (canL z3 10)]) (i := 4) (by kernel_rfl) rfl rfl cf67 rfl rfl rfl (less_tr _ x3 z3 q1 hx3 hz3 eq1) (fun _ t => tc.trans' t) (fun wn tn => ?_)
      simp only [Act.put, List.setIfInBounds_toArray, List.set_cons_zero, List.set_cons_succ]
      replace hz := tn.heap hz (fun q => q)
      replace tc := tc.trans' tn
      clear tn
      refine d_call (args := #[numV (canL q1 10), numV (canL a 10)]) (i := 6) (by kernel_rfl) rfl rfl cf55 rfl rfl rfl (times_tr _ q1 a da hq1 ha eda) (fun _ t => tc.trans' t) (fun wn tn => ?_)
      simp only [Act.put, List.setIfInBounds_toArray, List.set_cons_zero, List.set_cons_succ]
      replace hz := tn.heap hz (fun q => q)
      replace tc := tc.trans' tn
      clear tn
      refine d_store54 (i := 8) (by kernel_rfl) rfl rfl rfl rfl rfl (canL_length _ _) rfl hz (fun _ t => nothing_new tc gn t) (fun wz hn tn => ?_)
      simp only [Act.put, List.setIfInBounds_toArray, List.set_cons_zero, List.set_cons_succ]
      refine wpAnyH_done (by kernel_rfl) ?_ _
      have hh := Lib.hid (And.intro hn (And.intro gn (nothing_new tc gn tn)))
      clear hn gn tc tn hz tt h3 h4 h5 h6 h7 h8 h9 h10 h11 h12
      go_wp2_with fail
      go_meet
      exact ⟨_, rfl, hh.out.1, hh.out.2.1, hh.out.2.2⟩
  case rest =>
  obtain ⟨g13, rfl, h13, gn, tc⟩ := hcut
  obtain ⟨v11, ev11⟩ : ∃ v : World, v = wc := ⟨_, rfl⟩
  rw [← ev11] at h13 tc ⊢
  clear ev11 wc
  replace h3 := tc.heap h3 (fun q => q)
  replace h4 := tc.heap h4 (fun q => q)
  replace h5 := tc.heap h5 (fun q => q)
  replace h6 := tc.heap h6 (fun q => q)
  replace h7 := tc.heap h7 (fun q => q)
  replace h8 := tc.heap h8 (fun q => q)
  replace h9 := tc.heap h9 (fun q => q)
  replace h10 := tc.heap h10 (fun q => q)
  replace h11 := tc.heap h11 (fun q => q)
  replace h12 := tc.heap h12 (fun q => q)
  replace tt := tt.trans' tc
  clear tc gn
  go_upto_region 7 with fail
  go_cut [14] (fun v wx => ∃ g : Nat, v = .pointer (some ⟨g, 0, none⟩) ∧ wx.heap[g]? = some (numC (canL cb 10)) ∧ v11.heap.size ≤ g ∧ Touch Nothing v11 wx)
  case first =>
    refine wp_region_held_drew (S := fun w' => Touch Nothing v11 w') (by kernel_rfl) ((Touch.refl Nothing v11).drew) (fun tc => ?_)
    refine d_value (i := 0) rfl (by kernel_rfl) (by kernel_rfl) (by kernel_rfl) rfl (fun _ _ _ h => h) (fun w9 hS => run_fst rfl rfl) tc ?_
    simp only [Act.put, List.setIfInBounds_toArray, List.set_cons_zero, List.set_cons_succ]
    refine d_value (i := 1) rfl (by kernel_rfl) (by kernel_rfl) (by kernel_rfl) rfl (fun _ _ _ h => h) (fun w9 hS => run_load54 rfl rfl (rng_fst (hS.heap h5 (fun q => q))) (canL_length _ _)) tc ?_
    simp only [Act.put, List.setIfInBounds_toArray, List.set_cons_zero, List.set_cons_succ]
    refine d_value (i := 2) rfl (by kernel_rfl) (by kernel_rfl) (by kernel_rfl) rfl (fun _ _ _ h => h) (fun w9 hS => run_snd rfl rfl) tc ?_
    simp only [Act.put, List.setIfInBounds_toArray, List.set_cons_zero, List.set_cons_succ]
    refine d_value (i := 3) rfl (by kernel_rfl) (by kernel_rfl) (by kernel_rfl) rfl (fun _ _ _ h => h) (fun w9 hS => run_load54 rfl rfl (rng_snd (canL_length _ _) (hS.heap h5 (fun q => q))) (canL_length _ _)) tc ?_
    simp only [Act.put, List.setIfInBounds_toArray, List.set_cons_zero, List.set_cons_succ]
    refine d_value (i := 5) rfl (by kernel_rfl) (by kernel_rfl) (by kernel_rfl) rfl (fun _ _ _ h => h) (fun w9 hS => run_load54 rfl rfl (rng_num (hS.heap h9 (fun q => q))) (canL_length _ _)) tc ?_
    simp only [Act.put, List.setIfInBounds_toArray, List.set_cons_zero, List.set_cons_succ]
    refine d_two (i := 4) (m := 7) (by kernel_rfl) rfl rfl rfl rfl (fun K hK => ?_) (fun K hK => ?_)
    · refine wp_callf (args := #[numV (canL x3 10), numV (canL z3 10)]) cf54 rfl rfl rfl (plus_tr _ x3 z3 q2 hx3 hz3 eq2) (fun wn0 tn => ?_)
      refine hK _ _ (tc.trans' tn) ?_
      clear hK K
      simp only [Act.put, List.setIfInBounds_toArray, List.set_cons_zero, List.set_cons_succ]
      replace tc := tc.trans' tn
      clear tn
      refine d_two (i := 6) (m := 7) (by kernel_rfl) rfl rfl rfl rfl (fun K hK => ?_) (fun K hK => ?_)
      · refine wp_callf (args := #[numV (canL q2 10), numV (canL b 10)]) cf55 rfl rfl rfl (times_tr _ q2 b cb hq2 hb ecb) (fun wn1 tn => ?_)
        refine hK _ _ (tc.trans' tn) ?_
        clear hK K
        simp only [Act.put, List.setIfInBounds_toArray, List.set_cons_zero, List.set_cons_succ]
        replace tc := tc.trans' tn
        clear tn
        refine d_new (i := 7) (by kernel_rfl) rfl rfl (run_alloc54 rfl) (tc.alloc _) ?_
        simp only [Act.put, List.setIfInBounds_toArray, List.set_cons_zero, List.set_cons_succ]
        have hz := heap_new (wn1) (numC zeroN)
        have gn := tc.size
        replace tc := tc.alloc (numC zeroN)
        refine d_store54 (i := 8) (by kernel_rfl) rfl rfl rfl rfl rfl (canL_length _ _) rfl hz (fun _ t => nothing_new tc gn t) (fun wz hn tn => ?_)
        simp only [Act.put, List.setIfInBounds_toArray, List.set_cons_zero, List.set_cons_succ]
        refine wpAnyH_done (by kernel_rfl) ?_ _
        have hh := Lib.hid (And.intro hn (And.intro gn (nothing_new tc gn tn)))
        clear hn gn tc tn hz tt h3 h4 h5 h6 h7 h8 h9 h10 h11 h12 h13
        go_wp2_with fail
        go_meet
        exact ⟨_, rfl, hh.out.1, hh.out.2.1, hh.out.2.2⟩
      · refine wp_value (run_alloc54 rfl) (hK _ _ (tc.alloc _) ?_)
        clear hK K
        simp only [Act.put, List.setIfInBounds_toArray, List.set_cons_zero, List.set_cons_succ]
        have hz := heap_new (wn0) (numC zeroN)
        have gn := tc.size
        replace tc := tc.alloc (numC zeroN)
        refine d_call (args := #[numV (canL q2 10), numV (canL b 10)]) (i := 6) (by kernel_rfl) rfl rfl cf55 rfl rfl rfl (times_tr _ q2 b cb hq2 hb ecb) (fun _ t => tc.trans' t) (fun wn tn => ?_)
        simp only [Act.put, List.setIfInBounds_toArray, List.set_cons_zero, List.set_cons_succ]
        replace hz := tn.heap hz (fun q => q)
        replace tc := tc.trans' tn
        clear tn
        refine d_store54 (i := 8) (by kernel_rfl) rfl rfl rfl rfl rfl (canL_length _ _) rfl hz (fun _ t => nothing_new tc gn t) (fun wz hn tn => ?_)
        simp only [Act.put, List.setIfInBounds_toArray, List.set_cons_zero, List.set_cons_succ]
        refine wpAnyH_done (by kernel_rfl) ?_ _
        have hh := Lib.hid (And.intro hn (And.intro gn (nothing_new tc gn tn)))
        clear hn gn tc tn hz tt h3 h4 h5 h6 h7 h8 h9 h10 h11 h12 h13
        go_wp2_with fail
        go_meet
        exact ⟨_, rfl, hh.out.1, hh.out.2.1, hh.out.2.2⟩
    · refine wp_value (run_alloc54 rfl) (hK _ _ (tc.alloc _) ?_)
      clear hK K
      simp only [Act.put, List.setIfInBounds_toArray, List.set_cons_zero, List.set_cons_succ]
      have hz := heap_new (v11.drew) (numC zeroN)
      have gn := tc.size
      replace tc := tc.alloc (numC zeroN)
      refine d_call (args := #[numV (canL x3 10), numV (canL z3 10)]) (i := 4) (by kernel_rfl) rfl rfl cf54 rfl rfl rfl (plus_tr _ x3 z3 q2 hx3 hz3 eq2) (fun _ t => tc.trans' t) (fun wn tn => ?_)
      simp only [Act.put, List.setIfInBounds_toArray, List.set_cons_zero, List.set_cons_succ]
      replace hz := tn.heap hz (fun q => q)
      replace tc := tc.trans' tn
      clear tn
      refine d_call (args := #[numV (canL q2 10), numV (canL b 10)]) (i := 6) (by kernel_rfl) rfl rfl cf55 rfl rfl rfl (times_tr _ q2 b cb hq2 hb ecb) (fun _ t => tc.trans' t) (fun wn tn => ?_)
      simp only [Act.put, List.setIfInBounds_toArray, List.set_cons_zero, List.set_cons_succ]
      replace hz := tn.heap hz (fun q => q)
      replace tc := tc.trans' tn
      clear tn
      refine d_store54 (i := 8) (by kernel_rfl) rfl rfl rfl rfl rfl (canL_length _ _) rfl hz (fun _ t => nothing_new tc gn t) (fun wz hn tn => ?_)
      simp only [Act.put, List.setIfInBounds_toArray, List.set_cons_zero, List.set_cons_succ]
      refine wpAnyH_done (by kernel_rfl) ?_ _
      have hh := Lib.hid (And.intro hn (And.intro gn (nothing_new tc gn tn)))
      clear hn gn tc tn hz tt h3 h4 h5 h6 h7 h8 h9 h10 h11 h12 h13
      go_wp2_with fail
      go_meet
      exact ⟨_, rfl, hh.out.1, hh.out.2.1, hh.out.2.2⟩
  case rest =>
  obtain ⟨g14, rfl, h14, gn, tc⟩ := hcut
  obtain ⟨v12, ev12⟩ : ∃ v : World, v = wc := ⟨_, rfl⟩
  rw [← ev12] at h14 tc ⊢
  clear ev12 wc
  replace h3 := tc.heap h3 (fun q => q)
  replace h4 := tc.heap h4 (fun q => q)
  replace h5 := tc.heap h5 (fun q => q)
  replace h6 := tc.heap h6 (fun q => q)
  replace h7 := tc.heap h7 (fun q => q)
  replace h8 := tc.heap h8 (fun q => q)
  replace h9 := tc.heap h9 (fun q => q)
  replace h10 := tc.heap h10 (fun q => q)
  replace h11 := tc.heap h11 (fun q => q)
  replace h12 := tc.heap h12 (fun q => q)
  replace h13 := tc.heap h13 (fun q => q)
  replace tt := tt.trans' tc
  clear tc gn
  go_upto_region 8 with fail
  refine wp_region_list ?_
  have tc : Touch Nothing v12 v12 := Touch.refl _ _
  refine l_value rfl (run_load54 rfl rfl (rng_num (tc.heap h13 (fun q => q))) (canL_length _ _)) ?_
  simp only [Act.put, List.setIfInBounds_toArray, List.set_cons_zero, List.set_cons_succ]
  refine l_value rfl (run_load54 rfl rfl (rng_num (tc.heap h14 (fun q => q))) (canL_length _ _)) ?_
  simp only [Act.put, List.setIfInBounds_toArray, List.set_cons_zero, List.set_cons_succ]
  refine l_call (args := #[numV (canL da 10), numV (canL cb 10)]) rfl cf54 rfl rfl rfl (plus_tr _ da cb s hda hcb es) (fun v13 tn => ?_)
  replace tc := tc.trans' tn
  clear tn
  simp only [Act.put, List.setIfInBounds_toArray, List.set_cons_zero, List.set_cons_succ]
  refine l_value rfl (run_alloc54 rfl) ?_
  simp only [Act.put, List.setIfInBounds_toArray, List.set_cons_zero, List.set_cons_succ]
  refine l_store54 rfl rfl rfl rfl (canL_length _ _) rfl (heap_new _ _) (fun v14 hn tn => ?_)
  replace tn := nothing_new ((Touch.refl Nothing v13).alloc _) (Nat.le_refl _) tn
  replace tc := tc.trans' tn
  obtain ⟨g15, eg15⟩ : ∃ g, g = v13.heap.size := ⟨_, rfl⟩
  rw [← eg15] at hn ⊢
  clear eg15 tn
  simp only [Act.put, List.setIfInBounds_toArray, List.set_cons_zero, List.set_cons_succ]
  refine wpList_nil ?_
  replace h3 := tc.heap h3 (fun q => q)
  replace h4 := tc.heap h4 (fun q => q)
  replace h5 := tc.heap h5 (fun q => q)
  replace h6 := tc.heap h6 (fun q => q)
  replace h7 := tc.heap h7 (fun q => q)
  replace h8 := tc.heap h8 (fun q => q)
  replace h9 := tc.heap h9 (fun q => q)
  replace h10 := tc.heap h10 (fun q => q)
  replace h11 := tc.heap h11 (fun q => q)
  replace h12 := tc.heap h12 (fun q => q)
  replace h13 := tc.heap h13 (fun q => q)
  replace h14 := tc.heap h14 (fun q => q)
  replace tt := tt.trans' tc
  clear tc
  have h15 := hn
  clear hn
  go_upto_region 9 with fail
  refine wp_region_list ?_
  have tc : Touch Nothing v14 v14 := Touch.refl _ _
  refine l_value rfl (run_load54 rfl rfl (rng_num (tc.heap h13 (fun q => q))) (canL_length _ _)) ?_
  simp only [Act.put, List.setIfInBounds_toArray, List.set_cons_zero, List.set_cons_succ]
  refine l_value rfl (run_load54 rfl rfl (rng_num (tc.heap h14 (fun q => q))) (canL_length _ _)) ?_
  simp only [Act.put, List.setIfInBounds_toArray, List.set_cons_zero, List.set_cons_succ]
  refine l_call (args := #[numV (canL da 10), numV (canL cb 10)]) rfl cf67 rfl rfl rfl (less_tr _ da cb d hda hcb ed) (fun v15 tn => ?_)
  replace tc := tc.trans' tn
  clear tn
  simp only [Act.put, List.setIfInBounds_toArray, List.set_cons_zero, List.set_cons_succ]
  refine l_value rfl (run_alloc54 rfl) ?_
  simp only [Act.put, List.setIfInBounds_toArray, List.set_cons_zero, List.set_cons_succ]
  refine l_store54 rfl rfl rfl rfl (canL_length _ _) rfl (heap_new _ _) (fun v16 hn tn => ?_)
  replace tn := nothing_new ((Touch.refl Nothing v15).alloc _) (Nat.le_refl _) tn
  replace tc := tc.trans' tn
  obtain ⟨g16, eg16⟩ : ∃ g, g = v15.heap.size := ⟨_, rfl⟩
  rw [← eg16] at hn ⊢
  clear eg16 tn
  simp only [Act.put, List.setIfInBounds_toArray, List.set_cons_zero, List.set_cons_succ]
  refine wpList_nil ?_
  replace h3 := tc.heap h3 (fun q => q)
  replace h4 := tc.heap h4 (fun q => q)
  replace h5 := tc.heap h5 (fun q => q)
  replace h6 := tc.heap h6 (fun q => q)
  replace h7 := tc.heap h7 (fun q => q)
  replace h8 := tc.heap h8 (fun q => q)
  replace h9 := tc.heap h9 (fun q => q)
  replace h10 := tc.heap h10 (fun q => q)
  replace h11 := tc.heap h11 (fun q => q)
  replace h12 := tc.heap h12 (fun q => q)
  replace h13 := tc.heap h13 (fun q => q)
  replace h14 := tc.heap h14 (fun q => q)
  replace h15 := tc.heap h15 (fun q => q)
  replace tt := tt.trans' tc
  clear tc
  have h16 := hn
  clear hn
  go_upto_region 10 with fail
  go_cut [17] (fun v wx => ∃ g : Nat, v = .pointer (some ⟨g, 0, none⟩) ∧ wx.heap[g]? = some (pairC (canL nx 10) (canL nz 10)) ∧ v16.heap.size ≤ g ∧ Touch Nothing v16 wx)
  case first =>
    refine wp_region_held_drew (S := fun w' => Touch Nothing v16 w') (by kernel_rfl) ((Touch.refl Nothing v16).drew) (fun tc => ?_)
    refine d_value (i := 0) rfl (by kernel_rfl) (by kernel_rfl) (by kernel_rfl) rfl (fun _ _ _ h => h) (fun w9 hS => run_load54 rfl rfl (rng_num (hS.heap h15 (fun q => q))) (canL_length _ _)) tc ?_
    simp only [Act.put, List.setIfInBounds_toArray, List.set_cons_zero, List.set_cons_succ]
    refine d_value (i := 1) rfl (by kernel_rfl) (by kernel_rfl) (by kernel_rfl) rfl (fun _ _ _ h => h) (fun w9 hS => run_load54 rfl rfl (rng_num (hS.heap h15 (fun q => q))) (canL_length _ _)) tc ?_
    simp only [Act.put, List.setIfInBounds_toArray, List.set_cons_zero, List.set_cons_succ]
    refine d_value (i := 3) rfl (by kernel_rfl) (by kernel_rfl) (by kernel_rfl) rfl (fun _ _ _ h => h) (fun w9 hS => run_load54 rfl rfl (rng_num (hS.heap h3 (fun q => q))) (canL_length _ _)) tc ?_
    simp only [Act.put, List.setIfInBounds_toArray, List.set_cons_zero, List.set_cons_succ]
    refine d_value (i := 4) rfl (by kernel_rfl) (by kernel_rfl) (by kernel_rfl) rfl (fun _ _ _ h => h) (fun w9 hS => run_load54 rfl rfl (rng_num (hS.heap h16 (fun q => q))) (canL_length _ _)) tc ?_
    simp only [Act.put, List.setIfInBounds_toArray, List.set_cons_zero, List.set_cons_succ]
    refine d_value (i := 5) rfl (by kernel_rfl) (by kernel_rfl) (by kernel_rfl) rfl (fun _ _ _ h => h) (fun w9 hS => run_load54 rfl rfl (rng_num (hS.heap h16 (fun q => q))) (canL_length _ _)) tc ?_
    simp only [Act.put, List.setIfInBounds_toArray, List.set_cons_zero, List.set_cons_succ]
    refine d_two (i := 2) (m := 9) (by kernel_rfl) rfl rfl rfl rfl (fun K hK => ?_) (fun K hK => ?_)
    · refine wp_callf (args := #[numV (canL s 10), numV (canL s 10)]) cf55 rfl rfl rfl (times_tr _ s s nx hs hs enx) (fun wn0 tn => ?_)
      refine hK _ _ (tc.trans' tn) ?_
      clear hK K
      simp only [Act.put, List.setIfInBounds_toArray, List.set_cons_zero, List.set_cons_succ]
      replace tc := tc.trans' tn
      clear tn
      refine d_two (i := 6) (m := 9) (by kernel_rfl) rfl rfl rfl rfl (fun K hK => ?_) (fun K hK => ?_)
      · refine wp_callf (args := #[numV (canL d 10), numV (canL d 10)]) cf55 rfl rfl rfl (times_tr _ d d dd hd hd edd) (fun wn1 tn => ?_)
        refine hK _ _ (tc.trans' tn) ?_
        clear hK K
        simp only [Act.put, List.setIfInBounds_toArray, List.set_cons_zero, List.set_cons_succ]
        replace tc := tc.trans' tn
        clear tn
        refine d_two (i := 7) (m := 9) (by kernel_rfl) rfl rfl rfl rfl (fun K hK => ?_) (fun K hK => ?_)
        · refine wp_callf (args := #[numV (canL u 10), numV (canL dd 10)]) cf55 rfl rfl rfl (times_tr _ u dd nz hu hdd enz) (fun wn2 tn => ?_)
          refine hK _ _ (tc.trans' tn) ?_
          clear hK K
          simp only [Act.put, List.setIfInBounds_toArray, List.set_cons_zero, List.set_cons_succ]
          replace tc := tc.trans' tn
          clear tn
          refine d_value (i := 8) rfl (by kernel_rfl) (by kernel_rfl) (by kernel_rfl) rfl (fun _ _ _ h => h) (fun w9 hS => run_build90 rfl rfl rfl (canL_length _ _) (canL_length _ _)) tc ?_
          simp only [Act.put, List.setIfInBounds_toArray, List.set_cons_zero, List.set_cons_succ]
          refine d_new (i := 9) (by kernel_rfl) rfl rfl (run_alloc90 rfl) (tc.alloc _) ?_
          simp only [Act.put, List.setIfInBounds_toArray, List.set_cons_zero, List.set_cons_succ]
          have hz := heap_new (wn2) (pairC zeroN zeroN)
          have gn := tc.size
          replace tc := tc.alloc (pairC zeroN zeroN)
          refine d_store90 (i := 10) (by kernel_rfl) rfl rfl rfl rfl rfl (canL_length _ _) (canL_length _ _) rfl rfl hz (fun _ t => nothing_new tc gn t) (fun wz hn tn => ?_)
          simp only [Act.put, List.setIfInBounds_toArray, List.set_cons_zero, List.set_cons_succ]
          refine wpAnyH_done (by kernel_rfl) ?_ _
          have hh := Lib.hid (And.intro hn (And.intro gn (nothing_new tc gn tn)))
          clear hn gn tc tn hz tt h3 h4 h5 h6 h7 h8 h9 h10 h11 h12 h13 h14 h15 h16
          go_wp2_with fail
          go_meet
          exact ⟨_, rfl, hh.out.1, hh.out.2.1, hh.out.2.2⟩
        · refine wp_value (run_alloc90 rfl) (hK _ _ (tc.alloc _) ?_)
          clear hK K
          simp only [Act.put, List.setIfInBounds_toArray, List.set_cons_zero, List.set_cons_succ]
          have hz := heap_new (wn1) (pairC zeroN zeroN)
          have gn := tc.size
          replace tc := tc.alloc (pairC zeroN zeroN)
          refine d_call (args := #[numV (canL u 10), numV (canL dd 10)]) (i := 7) (by kernel_rfl) rfl rfl cf55 rfl rfl rfl (times_tr _ u dd nz hu hdd enz) (fun _ t => tc.trans' t) (fun wn tn => ?_)
          simp only [Act.put, List.setIfInBounds_toArray, List.set_cons_zero, List.set_cons_succ]
          replace hz := tn.heap hz (fun q => q)
          replace tc := tc.trans' tn
          clear tn
          refine d_value (i := 8) rfl (by kernel_rfl) (by kernel_rfl) (by kernel_rfl) rfl (fun _ _ _ h => h) (fun w9 hS => run_build90 rfl rfl rfl (canL_length _ _) (canL_length _ _)) tc ?_
          simp only [Act.put, List.setIfInBounds_toArray, List.set_cons_zero, List.set_cons_succ]
          refine d_store90 (i := 10) (by kernel_rfl) rfl rfl rfl rfl rfl (canL_length _ _) (canL_length _ _) rfl rfl hz (fun _ t => nothing_new tc gn t) (fun wz hn tn => ?_)
          simp only [Act.put, List.setIfInBounds_toArray, List.set_cons_zero, List.set_cons_succ]
          refine wpAnyH_done (by kernel_rfl) ?_ _
          have hh := Lib.hid (And.intro hn (And.intro gn (nothing_new tc gn tn)))
          clear hn gn tc tn hz tt h3 h4 h5 h6 h7 h8 h9 h10 h11 h12 h13 h14 h15 h16
          go_wp2_with fail
          go_meet
          exact ⟨_, rfl, hh.out.1, hh.out.2.1, hh.out.2.2⟩
      · refine wp_value (run_alloc90 rfl) (hK _ _ (tc.alloc _) ?_)
        clear hK K
        simp only [Act.put, List.setIfInBounds_toArray, List.set_cons_zero, List.set_cons_succ]
        have hz := heap_new (wn0) (pairC zeroN zeroN)
        have gn := tc.size
        replace tc := tc.alloc (pairC zeroN zeroN)
        refine d_call (args := #[numV (canL d 10), numV (canL d 10)]) (i := 6) (by kernel_rfl) rfl rfl cf55 rfl rfl rfl (times_tr _ d d dd hd hd edd) (fun _ t => tc.trans' t) (fun wn tn => ?_)
        simp only [Act.put, List.setIfInBounds_toArray, List.set_cons_zero, List.set_cons_succ]
        replace hz := tn.heap hz (fun q => q)
        replace tc := tc.trans' tn
        clear tn
        refine d_call (args := #[numV (canL u 10), numV (canL dd 10)]) (i := 7) (by kernel_rfl) rfl rfl cf55 rfl rfl rfl (times_tr _ u dd nz hu hdd enz) (fun _ t => tc.trans' t) (fun wn tn => ?_)
        simp only [Act.put, List.setIfInBounds_toArray, List.set_cons_zero, List.set_cons_succ]
        replace hz := tn.heap hz (fun q => q)
        replace tc := tc.trans' tn
        clear tn
        refine d_value (i := 8) rfl (by kernel_rfl) (by kernel_rfl) (by kernel_rfl) rfl (fun _ _ _ h => h) (fun w9 hS => run_build90 rfl rfl rfl (canL_length _ _) (canL_length _ _)) tc ?_
        simp only [Act.put, List.setIfInBounds_toArray, List.set_cons_zero, List.set_cons_succ]
        refine d_store90 (i := 10) (by kernel_rfl) rfl rfl rfl rfl rfl (canL_length _ _) (canL_length _ _) rfl rfl hz (fun _ t => nothing_new tc gn t) (fun wz hn tn => ?_)
        simp only [Act.put, List.setIfInBounds_toArray, List.set_cons_zero, List.set_cons_succ]
        refine wpAnyH_done (by kernel_rfl) ?_ _
        have hh := Lib.hid (And.intro hn (And.intro gn (nothing_new tc gn tn)))
        clear hn gn tc tn hz tt h3 h4 h5 h6 h7 h8 h9 h10 h11 h12 h13 h14 h15 h16
        go_wp2_with fail
        go_meet
        exact ⟨_, rfl, hh.out.1, hh.out.2.1, hh.out.2.2⟩
    · refine wp_value (run_alloc90 rfl) (hK _ _ (tc.alloc _) ?_)
      clear hK K
      simp only [Act.put, List.setIfInBounds_toArray, List.set_cons_zero, List.set_cons_succ]
      have hz := heap_new (v16.drew) (pairC zeroN zeroN)
      have gn := tc.size
      replace tc := tc.alloc (pairC zeroN zeroN)
      refine d_call (args := #[numV (canL s 10), numV (canL s 10)]) (i := 2) (by kernel_rfl) rfl rfl cf55 rfl rfl rfl (times_tr _ s s nx hs hs enx) (fun _ t => tc.trans' t) (fun wn tn => ?_)
      simp only [Act.put, List.setIfInBounds_toArray, List.set_cons_zero, List.set_cons_succ]
      replace hz := tn.heap hz (fun q => q)
      replace tc := tc.trans' tn
      clear tn
      refine d_call (args := #[numV (canL d 10), numV (canL d 10)]) (i := 6) (by kernel_rfl) rfl rfl cf55 rfl rfl rfl (times_tr _ d d dd hd hd edd) (fun _ t => tc.trans' t) (fun wn tn => ?_)
      simp only [Act.put, List.setIfInBounds_toArray, List.set_cons_zero, List.set_cons_succ]
      replace hz := tn.heap hz (fun q => q)
      replace tc := tc.trans' tn
      clear tn
      refine d_call (args := #[numV (canL u 10), numV (canL dd 10)]) (i := 7) (by kernel_rfl) rfl rfl cf55 rfl rfl rfl (times_tr _ u dd nz hu hdd enz) (fun _ t => tc.trans' t) (fun wn tn => ?_)
      simp only [Act.put, List.setIfInBounds_toArray, List.set_cons_zero, List.set_cons_succ]
      replace hz := tn.heap hz (fun q => q)
      replace tc := tc.trans' tn
      clear tn
      refine d_value (i := 8) rfl (by kernel_rfl) (by kernel_rfl) (by kernel_rfl) rfl (fun _ _ _ h => h) (fun w9 hS => run_build90 rfl rfl rfl (canL_length _ _) (canL_length _ _)) tc ?_
      simp only [Act.put, List.setIfInBounds_toArray, List.set_cons_zero, List.set_cons_succ]
      refine d_store90 (i := 10) (by kernel_rfl) rfl rfl rfl rfl rfl (canL_length _ _) (canL_length _ _) rfl rfl hz (fun _ t => nothing_new tc gn t) (fun wz hn tn => ?_)
      simp only [Act.put, List.setIfInBounds_toArray, List.set_cons_zero, List.set_cons_succ]
      refine wpAnyH_done (by kernel_rfl) ?_ _
      have hh := Lib.hid (And.intro hn (And.intro gn (nothing_new tc gn tn)))
      clear hn gn tc tn hz tt h3 h4 h5 h6 h7 h8 h9 h10 h11 h12 h13 h14 h15 h16
      go_wp2_with fail
      go_meet
      exact ⟨_, rfl, hh.out.1, hh.out.2.1, hh.out.2.2⟩
  case rest =>
  obtain ⟨g17, rfl, h17, gn, tc⟩ := hcut
  obtain ⟨v17, ev17⟩ : ∃ v : World, v = wc := ⟨_, rfl⟩
  rw [← ev17] at h17 tc ⊢
  clear ev17 wc
  have n17_6 := lt_of_heap h6
  have n17_7 := lt_of_heap h7
  replace h3 := tc.heap h3 (fun q => q)
  replace h4 := tc.heap h4 (fun q => q)
  replace h5 := tc.heap h5 (fun q => q)
  replace h6 := tc.heap h6 (fun q => q)
  replace h7 := tc.heap h7 (fun q => q)
  replace h8 := tc.heap h8 (fun q => q)
  replace h9 := tc.heap h9 (fun q => q)
  replace h10 := tc.heap h10 (fun q => q)
  replace h11 := tc.heap h11 (fun q => q)
  replace h12 := tc.heap h12 (fun q => q)
  replace h13 := tc.heap h13 (fun q => q)
  replace h14 := tc.heap h14 (fun q => q)
  replace h15 := tc.heap h15 (fun q => q)
  replace h16 := tc.heap h16 (fun q => q)
  replace tt := tt.trans' tc
  replace n17_6 : g6 < g17 := by omega
  replace n17_7 : g7 < g17 := by omega
  clear tc gn
  go_upto_region 11 with fail
  refine wp_region_list ?_
  have tc : Touch Nothing v17 v17 := Touch.refl _ _
  refine l_value rfl (run_const rfl) ?_
  simp only [Act.put, List.setIfInBounds_toArray, List.set_cons_zero, List.set_cons_succ]
  refine l_value rfl (run_alloc54 rfl) ?_
  simp only [Act.put, List.setIfInBounds_toArray, List.set_cons_zero, List.set_cons_succ]
  refine l_store54 rfl rfl rfl rfl (canL_length _ _) rfl (heap_new _ _) (fun v18 hn tn => ?_)
  replace tn := nothing_new ((Touch.refl Nothing v17).alloc _) (Nat.le_refl _) tn
  replace tc := tc.trans' tn
  obtain ⟨g18, eg18⟩ : ∃ g, g = v17.heap.size := ⟨_, rfl⟩
  rw [← eg18] at hn ⊢
  clear eg18 tn
  simp only [Act.put, List.setIfInBounds_toArray, List.set_cons_zero, List.set_cons_succ]
  refine wpList_nil ?_
  replace h3 := tc.heap h3 (fun q => q)
  replace h4 := tc.heap h4 (fun q => q)
  replace h5 := tc.heap h5 (fun q => q)
  replace h6 := tc.heap h6 (fun q => q)
  replace h7 := tc.heap h7 (fun q => q)
  replace h8 := tc.heap h8 (fun q => q)
  replace h9 := tc.heap h9 (fun q => q)
  replace h10 := tc.heap h10 (fun q => q)
  replace h11 := tc.heap h11 (fun q => q)
  replace h12 := tc.heap h12 (fun q => q)
  replace h13 := tc.heap h13 (fun q => q)
  replace h14 := tc.heap h14 (fun q => q)
  replace h15 := tc.heap h15 (fun q => q)
  replace h16 := tc.heap h16 (fun q => q)
  replace h17 := tc.heap h17 (fun q => q)
  replace tt := tt.trans' tc
  clear tc
  have h18 := hn
  clear hn
  go_upto_region 12 with fail
  go_cut [19] (fun v wx => ∃ g : Nat, v = .pointer (some ⟨g, 0, none⟩) ∧ wx.heap[g]? = some (pairC (canL tx 10) (canL tz 10)) ∧ v18.heap.size ≤ g ∧ Touch Nothing v18 wx)
  case first =>
    refine wp_region_held_drew (S := fun w' => Touch Nothing v18 w') (by kernel_rfl) ((Touch.refl Nothing v18).drew) (fun tc => ?_)
    refine d_value (i := 0) rfl (by kernel_rfl) (by kernel_rfl) (by kernel_rfl) rfl (fun _ _ _ h => h) (fun w9 hS => run_load54 rfl rfl (rng_num (hS.heap h10 (fun q => q))) (canL_length _ _)) tc ?_
    simp only [Act.put, List.setIfInBounds_toArray, List.set_cons_zero, List.set_cons_succ]
    refine d_value (i := 1) rfl (by kernel_rfl) (by kernel_rfl) (by kernel_rfl) rfl (fun _ _ _ h => h) (fun w9 hS => run_load54 rfl rfl (rng_num (hS.heap h11 (fun q => q))) (canL_length _ _)) tc ?_
    simp only [Act.put, List.setIfInBounds_toArray, List.set_cons_zero, List.set_cons_succ]
    refine d_value (i := 3) rfl (by kernel_rfl) (by kernel_rfl) (by kernel_rfl) rfl (fun _ _ _ h => h) (fun w9 hS => run_load54 rfl rfl (rng_num (hS.heap h12 (fun q => q))) (canL_length _ _)) tc ?_
    simp only [Act.put, List.setIfInBounds_toArray, List.set_cons_zero, List.set_cons_succ]
    refine d_value (i := 4) rfl (by kernel_rfl) (by kernel_rfl) (by kernel_rfl) rfl (fun _ _ _ h => h) (fun w9 hS => run_load54 rfl rfl (rng_num (hS.heap h10 (fun q => q))) (canL_length _ _)) tc ?_
    simp only [Act.put, List.setIfInBounds_toArray, List.set_cons_zero, List.set_cons_succ]
    refine d_value (i := 5) rfl (by kernel_rfl) (by kernel_rfl) (by kernel_rfl) rfl (fun _ _ _ h => h) (fun w9 hS => run_load54 rfl rfl (rng_num (hS.heap h18 (fun q => q))) (canL_length _ _)) tc ?_
    simp only [Act.put, List.setIfInBounds_toArray, List.set_cons_zero, List.set_cons_succ]
    refine d_value (i := 6) rfl (by kernel_rfl) (by kernel_rfl) (by kernel_rfl) rfl (fun _ _ _ h => h) (fun w9 hS => run_load54 rfl rfl (rng_num (hS.heap h12 (fun q => q))) (canL_length _ _)) tc ?_
    simp only [Act.put, List.setIfInBounds_toArray, List.set_cons_zero, List.set_cons_succ]
    refine d_two (i := 2) (m := 11) (by kernel_rfl) rfl rfl rfl rfl (fun K hK => ?_) (fun K hK => ?_)
    · refine wp_callf (args := #[numV (canL aa 10), numV (canL bb 10)]) cf55 rfl rfl rfl (times_tr _ aa bb tx haa hbb etx) (fun wn0 tn => ?_)
      refine hK _ _ (tc.trans' tn) ?_
      clear hK K
      simp only [Act.put, List.setIfInBounds_toArray, List.set_cons_zero, List.set_cons_succ]
      replace tc := tc.trans' tn
      clear tn
      refine d_two (i := 7) (m := 11) (by kernel_rfl) rfl rfl rfl rfl (fun K hK => ?_) (fun K hK => ?_)
      · refine wp_callf (args := #[numV (canL 121665 10), numV (canL e 10)]) cf55 rfl rfl rfl (times_tr _ 121665 e ce hconst he ece) (fun wn1 tn => ?_)
        refine hK _ _ (tc.trans' tn) ?_
        clear hK K
        simp only [Act.put, List.setIfInBounds_toArray, List.set_cons_zero, List.set_cons_succ]
        replace tc := tc.trans' tn
        clear tn
        refine d_two (i := 8) (m := 11) (by kernel_rfl) rfl rfl rfl rfl (fun K hK => ?_) (fun K hK => ?_)
        · refine wp_callf (args := #[numV (canL aa 10), numV (canL ce 10)]) cf54 rfl rfl rfl (plus_tr _ aa ce ac haa hce eac) (fun wn2 tn => ?_)
          refine hK _ _ (tc.trans' tn) ?_
          clear hK K
          simp only [Act.put, List.setIfInBounds_toArray, List.set_cons_zero, List.set_cons_succ]
          replace tc := tc.trans' tn
          clear tn
          refine d_two (i := 9) (m := 11) (by kernel_rfl) rfl rfl rfl rfl (fun K hK => ?_) (fun K hK => ?_)
          · refine wp_callf (args := #[numV (canL e 10), numV (canL ac 10)]) cf55 rfl rfl rfl (times_tr _ e ac tz he hac etz) (fun wn3 tn => ?_)
            refine hK _ _ (tc.trans' tn) ?_
            clear hK K
            simp only [Act.put, List.setIfInBounds_toArray, List.set_cons_zero, List.set_cons_succ]
            replace tc := tc.trans' tn
            clear tn
            refine d_value (i := 10) rfl (by kernel_rfl) (by kernel_rfl) (by kernel_rfl) rfl (fun _ _ _ h => h) (fun w9 hS => run_build90 rfl rfl rfl (canL_length _ _) (canL_length _ _)) tc ?_
            simp only [Act.put, List.setIfInBounds_toArray, List.set_cons_zero, List.set_cons_succ]
            refine d_new (i := 11) (by kernel_rfl) rfl rfl (run_alloc90 rfl) (tc.alloc _) ?_
            simp only [Act.put, List.setIfInBounds_toArray, List.set_cons_zero, List.set_cons_succ]
            have hz := heap_new (wn3) (pairC zeroN zeroN)
            have gn := tc.size
            replace tc := tc.alloc (pairC zeroN zeroN)
            refine d_store90 (i := 12) (by kernel_rfl) rfl rfl rfl rfl rfl (canL_length _ _) (canL_length _ _) rfl rfl hz (fun _ t => nothing_new tc gn t) (fun wz hn tn => ?_)
            simp only [Act.put, List.setIfInBounds_toArray, List.set_cons_zero, List.set_cons_succ]
            refine wpAnyH_done (by kernel_rfl) ?_ _
            have hh := Lib.hid (And.intro hn (And.intro gn (nothing_new tc gn tn)))
            clear hn gn tc tn hz tt h3 h4 h5 h6 h7 h8 h9 h10 h11 h12 h13 h14 h15 h16 h17 h18
            go_wp2_with fail
            go_meet
            exact ⟨_, rfl, hh.out.1, hh.out.2.1, hh.out.2.2⟩
          · refine wp_value (run_alloc90 rfl) (hK _ _ (tc.alloc _) ?_)
            clear hK K
            simp only [Act.put, List.setIfInBounds_toArray, List.set_cons_zero, List.set_cons_succ]
            have hz := heap_new (wn2) (pairC zeroN zeroN)
            have gn := tc.size
            replace tc := tc.alloc (pairC zeroN zeroN)
            refine d_call (args := #[numV (canL e 10), numV (canL ac 10)]) (i := 9) (by kernel_rfl) rfl rfl cf55 rfl rfl rfl (times_tr _ e ac tz he hac etz) (fun _ t => tc.trans' t) (fun wn tn => ?_)
            simp only [Act.put, List.setIfInBounds_toArray, List.set_cons_zero, List.set_cons_succ]
            replace hz := tn.heap hz (fun q => q)
            replace tc := tc.trans' tn
            clear tn
            refine d_value (i := 10) rfl (by kernel_rfl) (by kernel_rfl) (by kernel_rfl) rfl (fun _ _ _ h => h) (fun w9 hS => run_build90 rfl rfl rfl (canL_length _ _) (canL_length _ _)) tc ?_
            simp only [Act.put, List.setIfInBounds_toArray, List.set_cons_zero, List.set_cons_succ]
            refine d_store90 (i := 12) (by kernel_rfl) rfl rfl rfl rfl rfl (canL_length _ _) (canL_length _ _) rfl rfl hz (fun _ t => nothing_new tc gn t) (fun wz hn tn => ?_)
            simp only [Act.put, List.setIfInBounds_toArray, List.set_cons_zero, List.set_cons_succ]
            refine wpAnyH_done (by kernel_rfl) ?_ _
            have hh := Lib.hid (And.intro hn (And.intro gn (nothing_new tc gn tn)))
            clear hn gn tc tn hz tt h3 h4 h5 h6 h7 h8 h9 h10 h11 h12 h13 h14 h15 h16 h17 h18
            go_wp2_with fail
            go_meet
            exact ⟨_, rfl, hh.out.1, hh.out.2.1, hh.out.2.2⟩
        · refine wp_value (run_alloc90 rfl) (hK _ _ (tc.alloc _) ?_)
          clear hK K
          simp only [Act.put, List.setIfInBounds_toArray, List.set_cons_zero, List.set_cons_succ]
          have hz := heap_new (wn1) (pairC zeroN zeroN)
          have gn := tc.size
          replace tc := tc.alloc (pairC zeroN zeroN)
          refine d_call (args := #[numV (canL aa 10), numV (canL ce 10)]) (i := 8) (by kernel_rfl) rfl rfl cf54 rfl rfl rfl (plus_tr _ aa ce ac haa hce eac) (fun _ t => tc.trans' t) (fun wn tn => ?_)
          simp only [Act.put, List.setIfInBounds_toArray, List.set_cons_zero, List.set_cons_succ]
          replace hz := tn.heap hz (fun q => q)
          replace tc := tc.trans' tn
          clear tn
          refine d_call (args := #[numV (canL e 10), numV (canL ac 10)]) (i := 9) (by kernel_rfl) rfl rfl cf55 rfl rfl rfl (times_tr _ e ac tz he hac etz) (fun _ t => tc.trans' t) (fun wn tn => ?_)
          simp only [Act.put, List.setIfInBounds_toArray, List.set_cons_zero, List.set_cons_succ]
          replace hz := tn.heap hz (fun q => q)
          replace tc := tc.trans' tn
          clear tn
          refine d_value (i := 10) rfl (by kernel_rfl) (by kernel_rfl) (by kernel_rfl) rfl (fun _ _ _ h => h) (fun w9 hS => run_build90 rfl rfl rfl (canL_length _ _) (canL_length _ _)) tc ?_
          simp only [Act.put, List.setIfInBounds_toArray, List.set_cons_zero, List.set_cons_succ]
          refine d_store90 (i := 12) (by kernel_rfl) rfl rfl rfl rfl rfl (canL_length _ _) (canL_length _ _) rfl rfl hz (fun _ t => nothing_new tc gn t) (fun wz hn tn => ?_)
          simp only [Act.put, List.setIfInBounds_toArray, List.set_cons_zero, List.set_cons_succ]
          refine wpAnyH_done (by kernel_rfl) ?_ _
          have hh := Lib.hid (And.intro hn (And.intro gn (nothing_new tc gn tn)))
          clear hn gn tc tn hz tt h3 h4 h5 h6 h7 h8 h9 h10 h11 h12 h13 h14 h15 h16 h17 h18
          go_wp2_with fail
          go_meet
          exact ⟨_, rfl, hh.out.1, hh.out.2.1, hh.out.2.2⟩
      · refine wp_value (run_alloc90 rfl) (hK _ _ (tc.alloc _) ?_)
        clear hK K
        simp only [Act.put, List.setIfInBounds_toArray, List.set_cons_zero, List.set_cons_succ]
        have hz := heap_new (wn0) (pairC zeroN zeroN)
        have gn := tc.size
        replace tc := tc.alloc (pairC zeroN zeroN)
        refine d_call (args := #[numV (canL 121665 10), numV (canL e 10)]) (i := 7) (by kernel_rfl) rfl rfl cf55 rfl rfl rfl (times_tr _ 121665 e ce hconst he ece) (fun _ t => tc.trans' t) (fun wn tn => ?_)
        simp only [Act.put, List.setIfInBounds_toArray, List.set_cons_zero, List.set_cons_succ]
        replace hz := tn.heap hz (fun q => q)
        replace tc := tc.trans' tn
        clear tn
        refine d_call (args := #[numV (canL aa 10), numV (canL ce 10)]) (i := 8) (by kernel_rfl) rfl rfl cf54 rfl rfl rfl (plus_tr _ aa ce ac haa hce eac) (fun _ t => tc.trans' t) (fun wn tn => ?_)
        simp only [Act.put, List.setIfInBounds_toArray, List.set_cons_zero, List.set_cons_succ]
        replace hz := tn.heap hz (fun q => q)
        replace tc := tc.trans' tn
        clear tn
        refine d_call (args := #[numV (canL e 10), numV (canL ac 10)]) (i := 9) (by kernel_rfl) rfl rfl cf55 rfl rfl rfl (times_tr _ e ac tz he hac etz) (fun _ t => tc.trans' t) (fun wn tn => ?_)
        simp only [Act.put, List.setIfInBounds_toArray, List.set_cons_zero, List.set_cons_succ]
        replace hz := tn.heap hz (fun q => q)
        replace tc := tc.trans' tn
        clear tn
        refine d_value (i := 10) rfl (by kernel_rfl) (by kernel_rfl) (by kernel_rfl) rfl (fun _ _ _ h => h) (fun w9 hS => run_build90 rfl rfl rfl (canL_length _ _) (canL_length _ _)) tc ?_
        simp only [Act.put, List.setIfInBounds_toArray, List.set_cons_zero, List.set_cons_succ]
        refine d_store90 (i := 12) (by kernel_rfl) rfl rfl rfl rfl rfl (canL_length _ _) (canL_length _ _) rfl rfl hz (fun _ t => nothing_new tc gn t) (fun wz hn tn => ?_)
        simp only [Act.put, List.setIfInBounds_toArray, List.set_cons_zero, List.set_cons_succ]
        refine wpAnyH_done (by kernel_rfl) ?_ _
        have hh := Lib.hid (And.intro hn (And.intro gn (nothing_new tc gn tn)))
        clear hn gn tc tn hz tt h3 h4 h5 h6 h7 h8 h9 h10 h11 h12 h13 h14 h15 h16 h17 h18
        go_wp2_with fail
        go_meet
        exact ⟨_, rfl, hh.out.1, hh.out.2.1, hh.out.2.2⟩
    · refine wp_value (run_alloc90 rfl) (hK _ _ (tc.alloc _) ?_)
      clear hK K
      simp only [Act.put, List.setIfInBounds_toArray, List.set_cons_zero, List.set_cons_succ]
      have hz := heap_new (v18.drew) (pairC zeroN zeroN)
      have gn := tc.size
      replace tc := tc.alloc (pairC zeroN zeroN)
      refine d_call (args := #[numV (canL aa 10), numV (canL bb 10)]) (i := 2) (by kernel_rfl) rfl rfl cf55 rfl rfl rfl (times_tr _ aa bb tx haa hbb etx) (fun _ t => tc.trans' t) (fun wn tn => ?_)
      simp only [Act.put, List.setIfInBounds_toArray, List.set_cons_zero, List.set_cons_succ]
      replace hz := tn.heap hz (fun q => q)
      replace tc := tc.trans' tn
      clear tn
      refine d_call (args := #[numV (canL 121665 10), numV (canL e 10)]) (i := 7) (by kernel_rfl) rfl rfl cf55 rfl rfl rfl (times_tr _ 121665 e ce hconst he ece) (fun _ t => tc.trans' t) (fun wn tn => ?_)
      simp only [Act.put, List.setIfInBounds_toArray, List.set_cons_zero, List.set_cons_succ]
      replace hz := tn.heap hz (fun q => q)
      replace tc := tc.trans' tn
      clear tn
      refine d_call (args := #[numV (canL aa 10), numV (canL ce 10)]) (i := 8) (by kernel_rfl) rfl rfl cf54 rfl rfl rfl (plus_tr _ aa ce ac haa hce eac) (fun _ t => tc.trans' t) (fun wn tn => ?_)
      simp only [Act.put, List.setIfInBounds_toArray, List.set_cons_zero, List.set_cons_succ]
      replace hz := tn.heap hz (fun q => q)
      replace tc := tc.trans' tn
      clear tn
      refine d_call (args := #[numV (canL e 10), numV (canL ac 10)]) (i := 9) (by kernel_rfl) rfl rfl cf55 rfl rfl rfl (times_tr _ e ac tz he hac etz) (fun _ t => tc.trans' t) (fun wn tn => ?_)
      simp only [Act.put, List.setIfInBounds_toArray, List.set_cons_zero, List.set_cons_succ]
      replace hz := tn.heap hz (fun q => q)
      replace tc := tc.trans' tn
      clear tn
      refine d_value (i := 10) rfl (by kernel_rfl) (by kernel_rfl) (by kernel_rfl) rfl (fun _ _ _ h => h) (fun w9 hS => run_build90 rfl rfl rfl (canL_length _ _) (canL_length _ _)) tc ?_
      simp only [Act.put, List.setIfInBounds_toArray, List.set_cons_zero, List.set_cons_succ]
      refine d_store90 (i := 12) (by kernel_rfl) rfl rfl rfl rfl rfl (canL_length _ _) (canL_length _ _) rfl rfl hz (fun _ t => nothing_new tc gn t) (fun wz hn tn => ?_)
      simp only [Act.put, List.setIfInBounds_toArray, List.set_cons_zero, List.set_cons_succ]
      refine wpAnyH_done (by kernel_rfl) ?_ _
      have hh := Lib.hid (And.intro hn (And.intro gn (nothing_new tc gn tn)))
      clear hn gn tc tn hz tt h3 h4 h5 h6 h7 h8 h9 h10 h11 h12 h13 h14 h15 h16 h17 h18
      go_wp2_with fail
      go_meet
      exact ⟨_, rfl, hh.out.1, hh.out.2.1, hh.out.2.2⟩
  case rest =>
  obtain ⟨g19, rfl, h19, gn, tc⟩ := hcut
  obtain ⟨v19, ev19⟩ : ∃ v : World, v = wc := ⟨_, rfl⟩
  rw [← ev19] at h19 tc ⊢
  clear ev19 wc
  have n19_6 := lt_of_heap h6
  have n19_7 := lt_of_heap h7
  replace h3 := tc.heap h3 (fun q => q)
  replace h4 := tc.heap h4 (fun q => q)
  replace h5 := tc.heap h5 (fun q => q)
  replace h6 := tc.heap h6 (fun q => q)
  replace h7 := tc.heap h7 (fun q => q)
  replace h8 := tc.heap h8 (fun q => q)
  replace h9 := tc.heap h9 (fun q => q)
  replace h10 := tc.heap h10 (fun q => q)
  replace h11 := tc.heap h11 (fun q => q)
  replace h12 := tc.heap h12 (fun q => q)
  replace h13 := tc.heap h13 (fun q => q)
  replace h14 := tc.heap h14 (fun q => q)
  replace h15 := tc.heap h15 (fun q => q)
  replace h16 := tc.heap h16 (fun q => q)
  replace h17 := tc.heap h17 (fun q => q)
  replace h18 := tc.heap h18 (fun q => q)
  replace tt := tt.trans' tc
  replace n19_6 : g6 < g19 := by omega
  replace n19_7 : g7 < g19 := by omega
  clear tc gn
  go_upto_region 13 with fail
  refine wp_region_held_drew (S := fun w' => w'.heap[g19]? = some (pairC (canL tx 10) (canL tz 10)) ∧ w'.heap[g17]? = some (pairC (canL nx 10) (canL nz 10))) (by kernel_rfl) ⟨h19, h17⟩ (fun hHeld => ?_)
  refine d_value (i := 0) rfl (by kernel_rfl) (by kernel_rfl) (by kernel_rfl) rfl (fun _ _ _ h => h) (fun w9 hS => run_load90 rfl rfl (rng_pair hS.1) (by rw [List.length_append, canL_length, canL_length])) hHeld ?_
  simp only [Act.put, List.setIfInBounds_toArray, List.set_cons_zero, List.set_cons_succ]
  refine d_value (i := 1) rfl (by kernel_rfl) (by kernel_rfl) (by kernel_rfl) rfl (fun _ _ _ h => h) (fun w9 hS => run_load90 rfl rfl (rng_pair hS.2) (by rw [List.length_append, canL_length, canL_length])) hHeld ?_
  simp only [Act.put, List.setIfInBounds_toArray, List.set_cons_zero, List.set_cons_succ]
  refine d_store90 (i := 2) (by kernel_rfl) rfl rfl rfl rfl rfl (canL_length _ _) (canL_length _ _) rfl rfl (show v19.drew.heap[g6]? = some (pairC zeroN zeroN) from h6) (fun _ t => ⟨t.heap (show v19.drew.heap[g19]? = _ from h19) (by omega), t.heap (show v19.drew.heap[g17]? = _ from h17) (by omega)⟩) (fun y1 k6 t6 => ?_)
  simp only [Act.put, List.setIfInBounds_toArray, List.set_cons_zero, List.set_cons_succ]
  replace h7 := t6.heap (show v19.drew.heap[g7]? = _ from h7) (by omega)
  replace h19 := t6.heap (show v19.drew.heap[g19]? = _ from h19) (by omega)
  replace h17 := t6.heap (show v19.drew.heap[g17]? = _ from h17) (by omega)
  refine d_store90 (i := 3) (by kernel_rfl) rfl rfl rfl rfl rfl (canL_length _ _) (canL_length _ _) rfl rfl h7 (fun _ t => ⟨t.heap h19 (by omega), t.heap h17 (by omega)⟩) (fun y2 k7 t7 => ?_)
  simp only [Act.put, List.setIfInBounds_toArray, List.set_cons_zero, List.set_cons_succ]
  replace k6 := t7.heap k6 (by omega)
  have tend : Touch Nothing w y2 := (tt.drew.trans t6 (fun i hi q => by omega)).trans t7 (fun i hi q => by omega)
  refine wpAnyH_done (by kernel_rfl) ?_ _
  clear hHeld t6 t7 tt h3 h4 h5 h7 h8 h9 h10 h11 h12 h13 h14 h15 h16 h17 h18 h19
  replace k6 := Lib.hid k6
  replace k7 := Lib.hid k7
  replace tend := Lib.hid tend
  go_wp2
  exact bodyPost_ret (ret_pairs rfl rfl rfl (canL_length _ _) (canL_length _ _) (canL_length _ _) (canL_length _ _) k6.out k7.out) rfl ⟨rfl, tend.out⟩

end Go.Proofs.Ytfnmnmjpcamkiaa

namespace Go.Proofs.Ytfnmnmjpcamkiaa
open Go.RowKit
set_option linter.unusedVariables false
set_option linter.unusedSimpArgs false

/-! ### Plain -/

theorem addZ_n (m n : Nat) : addZ m n = ((nadd m n : Nat) : Int) := by
  unfold addZ nadd
  rw [← qP_int]
  simp

theorem mulZ_n (m n : Nat) : mulZ m n = ((nmul m n : Nat) : Int) := by
  unfold mulZ nmul
  rw [← qP_int]
  simp

theorem subZ_n (m n : Nat) (hn : n < qP) : subZ m n = ((nsub m n : Nat) : Int) := by
  unfold subZ nsub
  rw [← qP_int, Int.natCast_emod, Int.natCast_add, Int.natCast_sub (Nat.le_of_lt hn)]
  rw [show (m : Int) + ((qP : Int) - (n : Int)) = (m : Int) - (n : Int) + (qP : Int) by omega, Int.add_emod_right]

theorem invN_n (m : Nat) : invN m = ((m ^ qE % qP : Nat) : Int) := by
  unfold invN
  rw [qE_eq, qP_eq, cast_pow_mod]

theorem qP_pos : 0 < qP := by decide
theorem nadd_lt (m n : Nat) : nadd m n < qP := Nat.mod_lt _ qP_pos
theorem nmul_lt (m n : Nat) : nmul m n < qP := Nat.mod_lt _ qP_pos
theorem nsub_lt (m n : Nat) : nsub m n < qP := Nat.mod_lt _ qP_pos

theorem zP_n (x z : Nat) (hz : z < qP) : zP x z = (((nP x z).1 : Int), ((nP x z).2 : Int)) := by
  unfold zP nP
  have e : (121665 : Int) = ((121665 : Nat) : Int) := rfl
  simp only []
  rw [e, addZ_n, subZ_n x z hz, mulZ_n, mulZ_n, subZ_n _ _ (nmul_lt _ _), mulZ_n, mulZ_n, addZ_n, mulZ_n]
  unfold nadd
  rw [Nat.add_comm (nmul _ _) (nmul 121665 _)]

theorem zQ_n (u x2 z2 x3 z3 : Nat) (h2 : z2 < qP) (h3 : z3 < qP) : zQ u x2 z2 x3 z3 = (((nQ u x2 z2 x3 z3).1 : Int), ((nQ u x2 z2 x3 z3).2 : Int)) := by
  unfold zQ nQ
  simp only []
  rw [subZ_n x3 z3 h3, addZ_n x2 z2, addZ_n x3 z3, subZ_n x2 z2 h2, mulZ_n, mulZ_n, addZ_n, mulZ_n, subZ_n _ _ (nmul_lt _ _), mulZ_n, mulZ_n]
  unfold nmul
  rw [Nat.mul_comm u]

abbrev NN := Nat × Nat

/-- One round of the reference. -/
def rS (u N n : Nat) (s : NN × NN) : NN × NN :=
  if N.testBit n = true then (nQ u s.2.1 s.2.2 s.1.1 s.1.2, nP s.2.1 s.2.2) else (nP s.1.1 s.1.2, nQ u s.1.1 s.1.2 s.2.1 s.2.2)

def rL (u N : Nat) : Nat → NN × NN → NN × NN
  | 0, s => s
  | k + 1, s => rL u N k (rS u N k s)

def unS (s : NN × NN × Bool) : NN × NN := if s.2.2 = true then (s.2.1, s.1) else (s.1, s.2.1)

theorem rS_un (u N n : Nat) (s : NN × NN × Bool) : rS u N n (unS s) = unS (nS u N n s) := by
  obtain ⟨p, q, b⟩ := s
  unfold rS unS nS
  cases b <;> cases hb : N.testBit n <;> simp

theorem rL_un (u N : Nat) : ∀ (k : Nat) (s : NN × NN × Bool), rL u N k (unS s) = unS (nL u N k s)
  | 0, _ => rfl
  | k + 1, s => by
    show rL u N k (rS u N k (unS s)) = unS (nL u N k (nS u N k s))
    rw [rS_un, rL_un u N k]

theorem rL_nE (u N : Nat) : (rL u N 255 ((1, 0), (u, 1))).1 = nE u N := by
  have e : ((1, 0), (u, 1)) = unS ((1, 0), (u, 1), false) := rfl
  have h := rL_un u N 255 ((1, 0), (u, 1), false)
  rw [← e] at h
  rw [h]
  unfold unS nE
  obtain ⟨t, ht⟩ : ∃ t, t = nL u N 255 ((1, 0), (u, 1), false) := ⟨_, rfl⟩
  rw [← ht]
  simp only []
  split <;> rfl

/-! ### The calls in plain numbers -/

def cN (n : Nat) : List Int := canL (n : Int) 10
theorem cN_len (n : Nat) : (cN n).length = 10 := canL_length _ _

theorem rng_n {m : Nat} (h : m < qP) : Rng (m : Int) := ⟨Int.natCast_nonneg m, by rw [← qP_int]; omega⟩

theorem times_n (w : World) (m n : Nat) (hm : m < qP) (hn : n < qP) : Calls Try.prog 55 #[numV (cN m), numV (cN n)] w fun r w' => r = .returned (numV (cN (nmul m n))) ∧ Touch Nothing w w' :=
  times_tr w m n _ (rng_n hm) (rng_n hn) (mulZ_n m n).symm

theorem inv_n (w : World) (m : Nat) (hm : m < qP) : Calls Try.prog 74 #[numV (cN m)] w fun r w' => r = .returned (numV (cN (m ^ qE % qP))) ∧ Touch Nothing w w' := by
  have h := Inverse_ref w m (rng_n hm)
  rw [invN_n] at h
  exact h

theorem one_n (w : World) : Calls Try.prog 65 #[] w fun r w' => r = .returned (numV (cN 1)) ∧ Touch Nothing w w' := by
  have e : numV (cN 1) = .agg #[.int .i64 1, .int .i64 0, .int .i64 0, .int .i64 0, .int .i64 0, .int .i64 0, .int .i64 0, .int .i64 0, .int .i64 0, .int .i64 0] := rfl
  rw [e]
  exact One_lit w

theorem step_n (w : World) (u x2 z2 x3 z3 : Nat) (hu : u < qP) (h1 : x2 < qP) (h2 : z2 < qP) (h3 : x3 < qP) (h4 : z3 < qP) :
    Calls Try.prog 87 #[numV (cN u), numV (cN x2 ++ cN z2), numV (cN x3 ++ cN z3)] w fun r w' => r = .returned (.tuple #[numV (cN (nP x2 z2).1 ++ cN (nP x2 z2).2), numV (cN (nQ u x2 z2 x3 z3).1 ++ cN (nQ u x2 z2 x3 z3).2)]) ∧ Touch Nothing w w' := by
  have h := step_ref w u x2 z2 x3 z3 (rng_n hu) (rng_n h1) (rng_n h2) (rng_n h3) (rng_n h4)
  rw [zP_n x2 z2 h2, zQ_n u x2 z2 x3 z3 h2 h4] at h
  exact h

theorem nP_lt (x z : Nat) : (nP x z).1 < qP ∧ (nP x z).2 < qP := ⟨nmul_lt _ _, nmul_lt _ _⟩
theorem nQ_lt (u x z y v : Nat) : (nQ u x z y v).1 < qP ∧ (nQ u x z y v).2 < qP := ⟨nmul_lt _ _, nmul_lt _ _⟩

section
variable {a : Act} {w : World} {op : Oper}
theorem run_zero (ho : op.op = .build 54 #[]) : (execOp a.eval op).run Try.prog w = .ok (.value (numV (cN 0))) w := by
  have h : (Instr.build 54 #[]).run Try.prog w = .ok (numV (cN 0)) w := by kernel_rfl
  unfold execOp
  simp only [ho, List.map_toArray, List.map_nil, Sem.run_bind, h, Result.andThen_ok, Sem.run_pure]
theorem run_move {x : Operand} {v : Value} (ho : op.op = .move x) (hx : a.eval x = v) : (execOp a.eval op).run Try.prog w = .ok (.value v) w := by
  unfold execOp
  simp only [ho, hx, Sem.run_pure]
theorem run_ext0 {x : Operand} {u v : Value} (ho : op.op = .extract x 0) (hx : a.eval x = .tuple #[u, v]) : (execOp a.eval op).run Try.prog w = .ok (.value u) w := by
  have h : (Instr.extract (.tuple #[u, v]) 0).run Try.prog w = .ok u w := by kernel_rfl
  unfold execOp
  simp only [ho, hx, Sem.run_bind, h, Result.andThen_ok, Sem.run_pure]
theorem run_ext1 {x : Operand} {u v : Value} (ho : op.op = .extract x 1) (hx : a.eval x = .tuple #[u, v]) : (execOp a.eval op).run Try.prog w = .ok (.value v) w := by
  have h : (Instr.extract (.tuple #[u, v]) 1).run Try.prog w = .ok v w := by kernel_rfl
  unfold execOp
  simp only [ho, hx, Sem.run_bind, h, Result.andThen_ok, Sem.run_pure]
end

theorem run_pair {a : Act} {w : World} {op : Oper} {x : Operand} {g : Nat} {l m : List Int} (ho : op.op = .load 90 x) (hx : a.eval x = .pointer (some ⟨g, 0, none⟩)) (hg : w.heap[g]? = some (pairC l m)) (hl : l.length = 10) (hm : m.length = 10) :
    (execOp a.eval op).run Try.prog w = .ok (.value (numV (l ++ m))) w := run_load90 ho hx (rng_pair hg) (by rw [List.length_append, hl, hm])

set_option maxRecDepth 100000 in
set_option maxHeartbeats 6400000 in
theorem ladder_ref (w : World) (s : ByteArray) (u : Nat) (hs : s.size = 32) (hu : u < qP) :
    Calls Try.prog 70 #[.string s, numV (cN u)] w fun r w' => r = .returned (numV (cN (timesN u (decL s.data.toList)))) ∧ Touch Nothing w w' := by
  obtain ⟨n, hn⟩ : ∃ n, n = decN s := ⟨_, rfl⟩
  have hn0 : decL s.data.toList = n := hn.symm
  rw [hn0]
  obtain ⟨fin, hfin⟩ : ∃ fin, fin = rL u n 255 ((1, 0), (u, 1)) := ⟨_, rfl⟩
  have hres : timesN u n = nmul fin.1.1 (fin.1.2 ^ qE % qP) := by
    unfold timesN
    rw [hfin, rL_nE]
  rw [hres]
  clear hres hn0
  have hby : ∀ k (h : k < s.size), s[k].toNat = n / 256 ^ k % 256 := fun k h => by rw [hn]; exact byte_at s k h
  replace hby := Lib.hid hby
  replace hfin := Lib.hid hfin
  replace hn := Lib.hid hn
  have q1 : 1 < qP := by decide
  have q0 : 0 < qP := by decide
  go_enter Try.func70, Try.ntmps70
  go_upto_region 0 with fail
  refine wp_region_list ?_
  refine l_value rfl (run_box54 rfl rfl (cN_len _)) ?_
  simp only [Act.put, List.setIfInBounds_toArray, List.set_cons_zero, List.set_cons_succ]
  refine l_value rfl (run_alloc54 rfl) ?_
  simp only [Act.put, List.setIfInBounds_toArray, List.set_cons_zero, List.set_cons_succ]
  refine wpList_nil ?_
  have h3 := ((Touch.refl Nothing (w.alloc (numC (cN u)))).alloc (numC zeroN)).heap (heap_new w (numC (cN u))) (fun q => q)
  have h4 := heap_new (w.alloc (numC (cN u))) (numC zeroN)
  have tt := ((Touch.refl Nothing w).alloc (numC (cN u))).alloc (numC zeroN)
  have b4 := ((Touch.refl Nothing w).alloc (numC (cN u))).size
  have n34 := lt_of_heap (heap_new w (numC (cN u)))
  obtain ⟨g3, eg3⟩ : ∃ g, g = w.heap.size := ⟨_, rfl⟩
  obtain ⟨g4, eg4⟩ : ∃ g, g = (w.alloc (numC (cN u))).heap.size := ⟨_, rfl⟩
  obtain ⟨w1, ew1⟩ : ∃ v, v = (w.alloc (numC (cN u))).alloc (numC zeroN) := ⟨_, rfl⟩
  rw [← eg4] at h4 n34 b4 ⊢
  rw [← ew1] at h3 h4 tt ⊢
  have b3 : w.heap.size ≤ g3 := by omega
  rw [← eg3] at h3 n34 ⊢
  clear ew1 eg4 eg3
  go_upto_region 1 with fail
  refine wp_region_list ?_
  refine l_call (args := #[]) rfl cf65 rfl rfl rfl (one_n _) (fun w2 t2 => ?_)
  simp only [Act.put, List.setIfInBounds_toArray, List.set_cons_zero, List.set_cons_succ]
  refine l_value rfl (run_zero rfl) ?_
  simp only [Act.put, List.setIfInBounds_toArray, List.set_cons_zero, List.set_cons_succ]
  refine l_value rfl (run_build90 rfl rfl rfl (cN_len _) (cN_len _)) ?_
  simp only [Act.put, List.setIfInBounds_toArray, List.set_cons_zero, List.set_cons_succ]
  refine l_value rfl (run_alloc90 rfl) ?_
  simp only [Act.put, List.setIfInBounds_toArray, List.set_cons_zero, List.set_cons_succ]
  refine l_store90 rfl rfl rfl rfl (cN_len _) (cN_len _) rfl rfl (heap_new _ _) (fun w3 h5 t3 => ?_)
  simp only [Act.put, List.setIfInBounds_toArray, List.set_cons_zero, List.set_cons_succ]
  refine wpList_nil ?_
  have t3' := t2.trans' (nothing_new ((Touch.refl Nothing w2).alloc _) (Nat.le_refl _) t3)
  have n45 := lt_of_heap (t2.heap h4 (fun q => q))
  obtain ⟨g5, eg5⟩ : ∃ g, g = w2.heap.size := ⟨_, rfl⟩
  rw [← eg5] at h5 n45 ⊢
  clear eg5 t3 t2
  replace h3 := t3'.heap h3 (fun q => q)
  replace h4 := t3'.heap h4 (fun q => q)
  replace tt := tt.trans' t3'
  clear t3'
  go_upto_region 2 with fail
  go_cut [6] (fun v wx => ∃ g : Nat, v = .pointer (some ⟨g, 0, none⟩) ∧ wx.heap[g]? = some (pairC (cN u) (cN 1)) ∧ w3.heap.size ≤ g ∧ Touch Nothing w3 wx)
  case first =>
    refine wp_region_held_drew (S := fun w' => Touch Nothing w3 w') (by kernel_rfl) ((Touch.refl Nothing w3).drew) (fun tc => ?_)
    refine d_value (i := 0) rfl (by kernel_rfl) (by kernel_rfl) (by kernel_rfl) rfl (fun _ _ _ h => h) (fun w9 hS => run_load54 rfl rfl (rng_num (hS.heap h3 (fun q => q))) (cN_len _)) tc ?_
    simp only [Act.put, List.setIfInBounds_toArray, List.set_cons_zero, List.set_cons_succ]
    refine d_two (i := 1) (m := 3) (by kernel_rfl) rfl rfl rfl rfl (fun K hK => ?_) (fun K hK => ?_)
    · refine wp_callf (args := #[]) cf65 rfl rfl rfl (one_n _) (fun wn tn => ?_)
      refine hK _ _ (tc.trans' tn) ?_
      clear hK K
      simp only [Act.put, List.setIfInBounds_toArray, List.set_cons_zero, List.set_cons_succ]
      replace tc := tc.trans' tn
      clear tn
      refine d_value (i := 2) rfl (by kernel_rfl) (by kernel_rfl) (by kernel_rfl) rfl (fun _ _ _ h => h) (fun w9 hS => run_build90 rfl rfl rfl (cN_len _) (cN_len _)) tc ?_
      simp only [Act.put, List.setIfInBounds_toArray, List.set_cons_zero, List.set_cons_succ]
      refine d_new (i := 3) (by kernel_rfl) rfl rfl (run_alloc90 rfl) (tc.alloc _) ?_
      simp only [Act.put, List.setIfInBounds_toArray, List.set_cons_zero, List.set_cons_succ]
      have hz := heap_new wn (pairC zeroN zeroN)
      have gn := tc.size
      replace tc := tc.alloc (pairC zeroN zeroN)
      refine d_store90 (i := 4) (by kernel_rfl) rfl rfl rfl rfl rfl (cN_len _) (cN_len _) rfl rfl hz (fun _ t => nothing_new tc gn t) (fun wz hm tn => ?_)
      simp only [Act.put, List.setIfInBounds_toArray, List.set_cons_zero, List.set_cons_succ]
      refine wpAnyH_done (by kernel_rfl) ?_ _
      have hh := Lib.hid (And.intro hm (And.intro gn (nothing_new tc gn tn)))
      clear hm gn tc tn hz tt h3 h4 h5
      go_wp2_with fail
      go_meet
      exact ⟨_, rfl, hh.out.1, hh.out.2.1, hh.out.2.2⟩
    · refine wp_value (run_alloc90 rfl) (hK _ _ (tc.alloc _) ?_)
      clear hK K
      simp only [Act.put, List.setIfInBounds_toArray, List.set_cons_zero, List.set_cons_succ]
      have hz := heap_new w3.drew (pairC zeroN zeroN)
      have gn := tc.size
      replace tc := tc.alloc (pairC zeroN zeroN)
      refine d_call (args := #[]) (i := 1) (by kernel_rfl) rfl rfl cf65 rfl rfl rfl (one_n _) (fun _ t => tc.trans' t) (fun wn tn => ?_)
      simp only [Act.put, List.setIfInBounds_toArray, List.set_cons_zero, List.set_cons_succ]
      replace hz := tn.heap hz (fun q => q)
      replace tc := tc.trans' tn
      clear tn
      refine d_value (i := 2) rfl (by kernel_rfl) (by kernel_rfl) (by kernel_rfl) rfl (fun _ _ _ h => h) (fun w9 hS => run_build90 rfl rfl rfl (cN_len _) (cN_len _)) tc ?_
      simp only [Act.put, List.setIfInBounds_toArray, List.set_cons_zero, List.set_cons_succ]
      refine d_store90 (i := 4) (by kernel_rfl) rfl rfl rfl rfl rfl (cN_len _) (cN_len _) rfl rfl hz (fun _ t => nothing_new tc gn t) (fun wz hm tn => ?_)
      simp only [Act.put, List.setIfInBounds_toArray, List.set_cons_zero, List.set_cons_succ]
      refine wpAnyH_done (by kernel_rfl) ?_ _
      have hh := Lib.hid (And.intro hm (And.intro gn (nothing_new tc gn tn)))
      clear hm gn tc tn hz tt h3 h4 h5
      go_wp2_with fail
      go_meet
      exact ⟨_, rfl, hh.out.1, hh.out.2.1, hh.out.2.2⟩
  case rest =>
  obtain ⟨g6, rfl, h6, gn, tc⟩ := hcut
  obtain ⟨w4, ew4⟩ : ∃ v : World, v = wc := ⟨_, rfl⟩
  rw [← ew4] at h6 tc ⊢
  clear ew4 wc
  have n56 : g5 < g6 := by have := lt_of_heap h5; omega
  replace h3 := tc.heap h3 (fun q => q)
  replace h4 := tc.heap h4 (fun q => q)
  replace h5 := tc.heap h5 (fun q => q)
  replace tt := tt.trans' tc
  clear tc gn
  replace h3 := Lib.hid h3
  replace h4 := Lib.hid h4
  replace h5 := Lib.hid h5
  replace h6 := Lib.hid h6
  replace tt := Lib.hid tt
  have hsz : (s.size : Int) = 32 := by omega
  go_wp2
  go_loopw [7] (fun iv wr => ∃ (k : Nat) (A B : NN), k ≤ 255 ∧ iv = .int .i64 ((k : Int) - 1) ∧ wr.heap[g3]? = some (numC (cN u)) ∧ wr.heap[g4]? = some (numC zeroN) ∧ wr.heap[g5]? = some (pairC (cN A.1) (cN A.2)) ∧ wr.heap[g6]? = some (pairC (cN B.1) (cN B.2)) ∧ (A.1 < qP ∧ A.2 < qP ∧ B.1 < qP ∧ B.2 < qP) ∧ rL u n k (A, B) = fin ∧ Touch Nothing w wr) (fun iv _ => (intOf iv + 1).toNat)
  case atStart => exact ⟨255, (1, 0), (u, 1), by omega, rfl, h3.out, h4.out, h5.out, h6.out, ⟨q1, q0, hu, q1⟩, hfin.out.symm, tt.out⟩
  case round =>
    clear h3 h4 h5 h6 tt
    obtain ⟨k, A, B, hk, rfl, h3, h4, h5, h6, hlt, hlad, tt⟩ := hrel
    obtain ⟨A1, A2⟩ := A
    obtain ⟨B1, B2⟩ := B
    simp only [] at h5 h6 hlt
    cases k with
    | zero =>
      have hf : (A1, A2) = fin.1 := by rw [← hlad]; rfl
      have hf1 : A1 = fin.1.1 := by rw [← hf]
      have hf2 : A2 = fin.1.2 := by rw [← hf]
      clear hf hlad hfin
      replace hf1 := Lib.hid hf1
      replace hf2 := Lib.hid hf2
      replace h3 := Lib.hid h3
      replace h4 := Lib.hid h4
      replace h5 := Lib.hid h5
      replace h6 := Lib.hid h6
      replace tt := Lib.hid tt
      replace hlt := Lib.hid hlt
      go_upto_region 12 with fail
      refine wp_region_held_drew (S := fun w' => w'.heap[g5]? = some (pairC (cN A1) (cN A2))) (by kernel_rfl) h5.out (fun hS0 => ?_)
      refine d_value (i := 0) rfl (by kernel_rfl) (by kernel_rfl) (by kernel_rfl) rfl (fun _ _ _ h => h) (fun w9 hS => run_fst rfl rfl) hS0 ?_
      simp only [Act.put, List.setIfInBounds_toArray, List.set_cons_zero, List.set_cons_succ]
      refine d_value (i := 1) rfl (by kernel_rfl) (by kernel_rfl) (by kernel_rfl) rfl (fun _ _ _ h => h) (fun w9 hS => run_load54 rfl rfl (rng_fst hS) (cN_len _)) hS0 ?_
      simp only [Act.put, List.setIfInBounds_toArray, List.set_cons_zero, List.set_cons_succ]
      refine d_value (i := 2) rfl (by kernel_rfl) (by kernel_rfl) (by kernel_rfl) rfl (fun _ _ _ h => h) (fun w9 hS => run_snd rfl rfl) hS0 ?_
      simp only [Act.put, List.setIfInBounds_toArray, List.set_cons_zero, List.set_cons_succ]
      refine d_value (i := 3) rfl (by kernel_rfl) (by kernel_rfl) (by kernel_rfl) rfl (fun _ _ _ h => h) (fun w9 hS => run_load54 rfl rfl (rng_snd (cN_len _) hS) (cN_len _)) hS0 ?_
      simp only [Act.put, List.setIfInBounds_toArray, List.set_cons_zero, List.set_cons_succ]
      refine d_call (args := #[numV (cN A2)]) (i := 4) (by kernel_rfl) rfl rfl cf74 rfl rfl rfl (inv_n _ _ hlt.out.2.1) (fun _ t => t.heap hS0 (fun q => q)) (fun wa ta => ?_)
      simp only [Act.put, List.setIfInBounds_toArray, List.set_cons_zero, List.set_cons_succ]
      replace hS0 := ta.heap hS0 (fun q => q)
      refine d_call (args := #[numV (cN A1), numV (cN (A2 ^ qE % qP))]) (i := 5) (by kernel_rfl) rfl rfl cf55 rfl rfl rfl (times_n _ _ _ hlt.out.1 (Nat.mod_lt _ q0)) (fun _ t => t.heap hS0 (fun q => q)) (fun wb tb => ?_)
      simp only [Act.put, List.setIfInBounds_toArray, List.set_cons_zero, List.set_cons_succ]
      replace hS0 := tb.heap hS0 (fun q => q)
      have k4 := tb.heap (ta.heap (show wr.drew.heap[g4]? = some (numC zeroN) from h4.out) (fun q => q)) (fun q => q)
      refine d_store54 (i := 6) (by kernel_rfl) rfl rfl rfl rfl rfl (cN_len _) rfl k4 (fun _ t => t.heap hS0 (by omega)) (fun wz hm tn => ?_)
      simp only [Act.put, List.setIfInBounds_toArray, List.set_cons_zero, List.set_cons_succ]
      have tend := Lib.hid (((tt.out.drew.trans' ta).trans' tb).trans tn (fun i hi q => by omega))
      refine wpAnyH_done (by kernel_rfl) ?_ _
      replace hm := Lib.hid hm
      clear tn k4 hS0 ta tb tt h3 h4 h5 h6
      go_wp2
      exact bodyPost_ret (ret_num rfl (cN_len _) rfl hm.out) rfl ⟨by rw [hf1.out, hf2.out], tend.out⟩
    | succ j =>
      have hj : (((j + 1 : Nat) : Int) - 1) = (j : Int) := by omega
      rw [hj]
      clear hj
      have hj0 : (0 : Int) ≤ (j : Int) := by omega
      have hj8 : j / 8 < s.size := by omega
      have hc := hby.out (j / 8) hj8
      have hbit := bit_at n j ((s[j / 8].toNat : Nat) : Int) (by rw [hc])
      obtain ⟨b, hb⟩ : ∃ b, b = n.testBit j := ⟨_, rfl⟩
      rw [← hb] at hbit
      have hlad2 : rL u n j (rS u n j ((A1, A2), (B1, B2))) = fin := hlad
      clear hlad
      replace h3 := Lib.hid h3
      replace h4 := Lib.hid h4
      replace h5 := Lib.hid h5
      replace h6 := Lib.hid h6
      replace tt := Lib.hid tt
      replace hlt := Lib.hid hlt
      replace hb := Lib.hid hb
      replace hlad2 := Lib.hid hlad2
      replace hc := Lib.hid hc
      cases b
      · go_upto_region 9 with fail
        refine wp_region_list ?_
        refine l_value rfl (run_load54 rfl rfl (rng_num h3.out) (cN_len _)) ?_
        simp only [Act.put, List.setIfInBounds_toArray, List.set_cons_zero, List.set_cons_succ]
        refine l_value rfl (run_pair rfl rfl h5.out (cN_len _) (cN_len _)) ?_
        simp only [Act.put, List.setIfInBounds_toArray, List.set_cons_zero, List.set_cons_succ]
        refine l_value rfl (run_pair rfl rfl h6.out (cN_len _) (cN_len _)) ?_
        simp only [Act.put, List.setIfInBounds_toArray, List.set_cons_zero, List.set_cons_succ]
        refine l_call (args := #[numV (cN u), numV (cN A1 ++ cN A2), numV (cN B1 ++ cN B2)]) rfl cf87 rfl rfl rfl (step_n _ _ _ _ _ _ hu hlt.out.1 hlt.out.2.1 hlt.out.2.2.1 hlt.out.2.2.2) (fun waa ta => ?_)
        simp only [Act.put, List.setIfInBounds_toArray, List.set_cons_zero, List.set_cons_succ]
        replace h3 := Lib.hid (ta.heap h3.out (fun q => q))
        replace h4 := Lib.hid (ta.heap h4.out (fun q => q))
        replace h5 := Lib.hid (ta.heap h5.out (fun q => q))
        replace h6 := Lib.hid (ta.heap h6.out (fun q => q))
        replace tt := Lib.hid (tt.out.trans' ta)
        clear ta
        refine l_value rfl (run_move rfl rfl) ?_
        simp only [Act.put, List.setIfInBounds_toArray, List.set_cons_zero, List.set_cons_succ]
        refine l_value rfl (run_ext0 rfl rfl) ?_
        simp only [Act.put, List.setIfInBounds_toArray, List.set_cons_zero, List.set_cons_succ]
        refine l_value rfl (run_ext1 rfl rfl) ?_
        simp only [Act.put, List.setIfInBounds_toArray, List.set_cons_zero, List.set_cons_succ]
        refine l_store90 rfl rfl rfl rfl (cN_len _) (cN_len _) (cN_len _) (cN_len _) h5.out (fun wa5 k5 t5 => ?_)
        simp only [Act.put, List.setIfInBounds_toArray, List.set_cons_zero, List.set_cons_succ]
        replace h3 := Lib.hid (t5.heap h3.out (by omega))
        replace h4 := Lib.hid (t5.heap h4.out (by omega))
        replace h6 := Lib.hid (t5.heap h6.out (by omega))
        replace tt := Lib.hid (tt.out.trans t5 (fun i hi q => by omega))
        refine l_store90 rfl rfl rfl rfl (cN_len _) (cN_len _) (cN_len _) (cN_len _) h6.out (fun wa6 k6 t6 => ?_)
        simp only [Act.put, List.setIfInBounds_toArray, List.set_cons_zero, List.set_cons_succ]
        replace h3 := Lib.hid (t6.heap h3.out (by omega))
        replace h4 := Lib.hid (t6.heap h4.out (by omega))
        replace h5 := Lib.hid (t6.heap k5 (by omega))
        replace h6 := Lib.hid k6
        replace tt := Lib.hid (tt.out.trans t6 (fun i hi q => by omega))
        clear t5 t6 k5 k6
        refine wpList_nil ?_
        have hl3 : rL u n j (nP A1 A2, nQ u A1 A2 B1 B2) = fin := by
          rw [← hlad2.out]
          unfold rS
          rw [← hb.out, if_neg (by decide)]
        replace hl3 := Lib.hid hl3
        go_wp2
        exact ⟨⟨j, nP A1 A2, nQ u A1 A2 B1 B2, by omega, rfl, h3.out, h4.out, h5.out, h6.out, ⟨(nP_lt _ _).1, (nP_lt _ _).2, (nQ_lt _ _ _ _ _).1, (nQ_lt _ _ _ _ _).2⟩, hl3.out, tt.out⟩, by simp [intOf]⟩
      · go_upto_region 8 with fail
        refine wp_region_list ?_
        refine l_value rfl (run_pair rfl rfl h6.out (cN_len _) (cN_len _)) ?_
        simp only [Act.put, List.setIfInBounds_toArray, List.set_cons_zero, List.set_cons_succ]
        refine l_value rfl (run_pair rfl rfl h5.out (cN_len _) (cN_len _)) ?_
        simp only [Act.put, List.setIfInBounds_toArray, List.set_cons_zero, List.set_cons_succ]
        refine l_store90 rfl rfl rfl rfl (cN_len _) (cN_len _) (cN_len _) (cN_len _) h5.out (fun wb5 k5 t5 => ?_)
        simp only [Act.put, List.setIfInBounds_toArray, List.set_cons_zero, List.set_cons_succ]
        replace h3 := Lib.hid (t5.heap h3.out (by omega))
        replace h4 := Lib.hid (t5.heap h4.out (by omega))
        replace h6 := Lib.hid (t5.heap h6.out (by omega))
        replace tt := Lib.hid (tt.out.trans t5 (fun i hi q => by omega))
        refine l_store90 rfl rfl rfl rfl (cN_len _) (cN_len _) (cN_len _) (cN_len _) h6.out (fun wb6 k6 t6 => ?_)
        simp only [Act.put, List.setIfInBounds_toArray, List.set_cons_zero, List.set_cons_succ]
        replace h3 := Lib.hid (t6.heap h3.out (by omega))
        replace h4 := Lib.hid (t6.heap h4.out (by omega))
        replace h5 := Lib.hid (t6.heap k5 (by omega))
        replace h6 := Lib.hid k6
        replace tt := Lib.hid (tt.out.trans t6 (fun i hi q => by omega))
        clear t5 t6 k5 k6
        refine wpList_nil ?_
        go_upto_region 9 with fail
        refine wp_region_list ?_
        refine l_value rfl (run_load54 rfl rfl (rng_num h3.out) (cN_len _)) ?_
        simp only [Act.put, List.setIfInBounds_toArray, List.set_cons_zero, List.set_cons_succ]
        refine l_value rfl (run_pair rfl rfl h5.out (cN_len _) (cN_len _)) ?_
        simp only [Act.put, List.setIfInBounds_toArray, List.set_cons_zero, List.set_cons_succ]
        refine l_value rfl (run_pair rfl rfl h6.out (cN_len _) (cN_len _)) ?_
        simp only [Act.put, List.setIfInBounds_toArray, List.set_cons_zero, List.set_cons_succ]
        refine l_call (args := #[numV (cN u), numV (cN B1 ++ cN B2), numV (cN A1 ++ cN A2)]) rfl cf87 rfl rfl rfl (step_n _ _ _ _ _ _ hu hlt.out.2.2.1 hlt.out.2.2.2 hlt.out.1 hlt.out.2.1) (fun wca ta => ?_)
        simp only [Act.put, List.setIfInBounds_toArray, List.set_cons_zero, List.set_cons_succ]
        replace h3 := Lib.hid (ta.heap h3.out (fun q => q))
        replace h4 := Lib.hid (ta.heap h4.out (fun q => q))
        replace h5 := Lib.hid (ta.heap h5.out (fun q => q))
        replace h6 := Lib.hid (ta.heap h6.out (fun q => q))
        replace tt := Lib.hid (tt.out.trans' ta)
        clear ta
        refine l_value rfl (run_move rfl rfl) ?_
        simp only [Act.put, List.setIfInBounds_toArray, List.set_cons_zero, List.set_cons_succ]
        refine l_value rfl (run_ext0 rfl rfl) ?_
        simp only [Act.put, List.setIfInBounds_toArray, List.set_cons_zero, List.set_cons_succ]
        refine l_value rfl (run_ext1 rfl rfl) ?_
        simp only [Act.put, List.setIfInBounds_toArray, List.set_cons_zero, List.set_cons_succ]
        refine l_store90 rfl rfl rfl rfl (cN_len _) (cN_len _) (cN_len _) (cN_len _) h5.out (fun wc5 k5 t5 => ?_)
        simp only [Act.put, List.setIfInBounds_toArray, List.set_cons_zero, List.set_cons_succ]
        replace h3 := Lib.hid (t5.heap h3.out (by omega))
        replace h4 := Lib.hid (t5.heap h4.out (by omega))
        replace h6 := Lib.hid (t5.heap h6.out (by omega))
        replace tt := Lib.hid (tt.out.trans t5 (fun i hi q => by omega))
        refine l_store90 rfl rfl rfl rfl (cN_len _) (cN_len _) (cN_len _) (cN_len _) h6.out (fun wc6 k6 t6 => ?_)
        simp only [Act.put, List.setIfInBounds_toArray, List.set_cons_zero, List.set_cons_succ]
        replace h3 := Lib.hid (t6.heap h3.out (by omega))
        replace h4 := Lib.hid (t6.heap h4.out (by omega))
        replace h5 := Lib.hid (t6.heap k5 (by omega))
        replace h6 := Lib.hid k6
        replace tt := Lib.hid (tt.out.trans t6 (fun i hi q => by omega))
        clear t5 t6 k5 k6
        refine wpList_nil ?_
        go_upto_region 11 with fail
        refine wp_region_list ?_
        refine l_value rfl (run_pair rfl rfl h6.out (cN_len _) (cN_len _)) ?_
        simp only [Act.put, List.setIfInBounds_toArray, List.set_cons_zero, List.set_cons_succ]
        refine l_value rfl (run_pair rfl rfl h5.out (cN_len _) (cN_len _)) ?_
        simp only [Act.put, List.setIfInBounds_toArray, List.set_cons_zero, List.set_cons_succ]
        refine l_store90 rfl rfl rfl rfl (cN_len _) (cN_len _) (cN_len _) (cN_len _) h5.out (fun wd5 k5 t5 => ?_)
        simp only [Act.put, List.setIfInBounds_toArray, List.set_cons_zero, List.set_cons_succ]
        replace h3 := Lib.hid (t5.heap h3.out (by omega))
        replace h4 := Lib.hid (t5.heap h4.out (by omega))
        replace h6 := Lib.hid (t5.heap h6.out (by omega))
        replace tt := Lib.hid (tt.out.trans t5 (fun i hi q => by omega))
        refine l_store90 rfl rfl rfl rfl (cN_len _) (cN_len _) (cN_len _) (cN_len _) h6.out (fun wd6 k6 t6 => ?_)
        simp only [Act.put, List.setIfInBounds_toArray, List.set_cons_zero, List.set_cons_succ]
        replace h3 := Lib.hid (t6.heap h3.out (by omega))
        replace h4 := Lib.hid (t6.heap h4.out (by omega))
        replace h5 := Lib.hid (t6.heap k5 (by omega))
        replace h6 := Lib.hid k6
        replace tt := Lib.hid (tt.out.trans t6 (fun i hi q => by omega))
        clear t5 t6 k5 k6
        refine wpList_nil ?_
        have hl3 : rL u n j (nQ u B1 B2 A1 A2, nP B1 B2) = fin := by
          rw [← hlad2.out]
          unfold rS
          rw [← hb.out, if_pos rfl]
        replace hl3 := Lib.hid hl3
        go_wp2
        exact ⟨⟨j, nQ u B1 B2 A1 A2, nP B1 B2, by omega, rfl, h3.out, h4.out, h5.out, h6.out, ⟨(nQ_lt _ _ _ _ _).1, (nQ_lt _ _ _ _ _).2, (nP_lt _ _).1, (nP_lt _ _).2⟩, hl3.out, tt.out⟩, by simp [intOf]⟩

end Go.Proofs.Ytfnmnmjpcamkiaa
