/-
  Operations one law each, in a region's list (l_..) and in a region that draws its order (d_..): for scripts that are printed.
-/
import Derived.Test.YtoegkcjclgmnbaaProg
import Derived.Test.YtoegkcjclgmnbaaMem
import Derived.Test.YtoegkcjclgmnbaaRet
import Derived.Deep.MidRow
import Derived.Deep.RegionHeld
namespace Go.Proofs.Ytoegkcjclgmnbaa
open Go.RowKit
set_option linter.unusedVariables false
set_option linter.unusedSimpArgs false

theorem touch_setCells (w : World) (g : Nat) : ∀ (vs : List Value) (o : Nat), Touch (fun i => i = g) w (w.setCells g o vs)
  | [], _ => Touch.refl _ _
  | v :: r, o => by
    rw [World.setCells]
    exact ((Touch.refl (fun i => i = g) w).setCell (p := ⟨g, o, none⟩) (fun _ => rfl) v).trans' (touch_setCells _ g r (o + 1))

theorem blk_there {w : World} {g : Nat} {C : Array Value} {t : TypeId} (h : w.heap[g]? = some (.cells C t (0, 0))) {o n : Nat} (hn : o + n ≤ C.size) : w.there g o n := by
  intro j hj
  rw [cell_blk h (o + j)]
  refine ⟨?_, frz_blk h (o + j)⟩
  rw [Array.getElem?_eq_getElem (by omega)]
  rfl

section
variable {a : Act} {w : World} {K : Act → World → Prop} {Q : Exit → Act → World → Prop} {op : Oper}

theorem wp_value {v : Value} {w' : World} (h : (execOp a.eval op).run Try.prog w = .ok (.value v) w') (k : K (a.put op.dst v) w') : op.wp Try.prog a w K Q := by
  unfold Oper.wp
  rw [h]
  exact k

theorem wp_skip {w' : World} (h : (execOp a.eval op).run Try.prog w = .ok .skip w') (k : K (a.put op.dst undef) w') : op.wp Try.prog a w K Q := by
  unfold Oper.wp
  rw [h]
  exact k

theorem run_move {x : Operand} {v : Value} (ho : op.op = .move x) (hx : a.eval x = v) : (execOp a.eval op).run Try.prog w = .ok (.value v) w := by
  unfold execOp
  simp only [ho, hx, Sem.run_pure]
theorem run_asgn {x : Operand} {v : Value} (ho : op.op = .assign x) (hx : a.eval x = v) : (execOp a.eval op).run Try.prog w = .ok (.value v) w := by
  unfold execOp
  simp only [ho, hx, Sem.run_pure]
theorem run_ext {x : Operand} {i : Nat} {u v : Value} (ho : op.op = .extract x i) (hx : a.eval x = u) (h : (Instr.extract u i).run Try.prog w = .ok v w) : (execOp a.eval op).run Try.prog w = .ok (.value v) w := by
  unfold execOp
  simp only [ho, hx, Sem.run_bind, h, Result.andThen_ok, Sem.run_pure]
theorem run_alloc {t : TypeId} {o : Obj} (ho : op.op = .alloc t) (h : (Instr.alloc t true (.tuple #[])).run Try.prog w = .ok (.pointer (some ⟨w.heap.size, 0, none⟩)) (w.alloc o)) : (execOp a.eval op).run Try.prog w = .ok (.value (.pointer (some ⟨w.heap.size, 0, none⟩))) (w.alloc o) := by
  unfold execOp
  simp only [ho, Sem.run_bind, h, Result.andThen_ok, Sem.run_pure]
theorem run_box {t : TypeId} {x : Operand} {v : Value} {o : Obj} (ho : op.op = .box t x) (hx : a.eval x = v) (h : (Instr.box t v).run Try.prog w = .ok (.pointer (some ⟨w.heap.size, 0, none⟩)) (w.alloc o)) : (execOp a.eval op).run Try.prog w = .ok (.value (.pointer (some ⟨w.heap.size, 0, none⟩))) (w.alloc o) := by
  unfold execOp
  simp only [ho, hx, Sem.run_bind, h, Result.andThen_ok, Sem.run_pure]
theorem run_field {t : TypeId} {x : Operand} {f : Nat} {g o k : Nat} (ho : op.op = .fieldAddr t x f) (hx : a.eval x = .pointer (some ⟨g, o, none⟩)) (h : (Instr.fieldAt t (.pointer (some ⟨g, o, none⟩)) f).run Try.prog w = .ok (.pointer (some ⟨g, k, none⟩)) w) : (execOp a.eval op).run Try.prog w = .ok (.value (.pointer (some ⟨g, k, none⟩))) w := by
  unfold execOp
  simp only [ho, hx, Sem.run_bind, h, Result.andThen_ok, Sem.run_pure]
/-- A whole row or struct is read. -/
theorem run_loadR {t : TypeId} {x : Operand} {g o : Nat} {cs : List Value} {d : TypeDesc} (ho : op.op = .load t x) (hx : a.eval x = .pointer (some ⟨g, o, none⟩)) (hr : w.rangeAt g o cs) (hu : Try.prog.underlying t = some d) (hd : d.isRow = true) (hi : (Try.prog.info? t).map (·.size) = some cs.length) :
    (execOp a.eval op).run Try.prog w = .ok (.value (.agg cs.toArray)) w := by
  have h := run_loadAt_mid (P := Try.prog) w g o t _ _ hr hu hd hi
  unfold execOp
  simp only [ho, hx, Sem.run_bind, h, Result.andThen_ok, Sem.run_pure]

/-- A call of a function by its contract. -/
theorem wp_callf {c : Call} {f : FuncId} {args : Array Value} {v : Value} {R : World → Prop} (hf : ∀ (args : Array Value) (w : World), (callFunc f args).run Try.prog w = .ok (.enter f args) w) (ho : op.op = .call c) (x : Operand) (hc : c.callee = .value x) (cb : Array Value) (hx : a.eval x = .func (.func f) #[] cb) (ha : (c.args.toList.map a.eval) ++ cb.toList = args.toList)
    (h : Calls Try.prog f args w (fun r w' => r = .returned v ∧ R w')) (k : ∀ w', R w' → K (a.put op.dst v) w') : op.wp Try.prog a w K Q := by
  have ha2 : c.args.map a.eval ++ cb = args := by
    apply Array.toList_inj.1
    rw [Array.toList_append, Array.toList_map]
    exact ha
  have e : (execOp a.eval op).run Try.prog w = .ok (.enter f args) w := by
    unfold execOp
    simp only [ho, resolve, hc]
    simp only [hx, Deferred.ofValue, invoke, Sem.run_bind, Sem.run_pure, Result.andThen_ok, Array.empty_append, ha2, hf]
  unfold Oper.wp
  rw [e]
  refine h.mono ?_
  rintro r w' ⟨rfl, hR⟩
  exact k w' hR

end

section
variable {a : Act} {w : World} {ops : Array Oper} {Q : Exit → Act → World → Prop} {op : Oper} {rest : List Oper} {md : Region.Mode} {S : World → Prop} {listed : Array Bool} {fuel : Nat}

theorem l_value {v : Value} {w' : World} (hg : op.guard = none) (h : (execOp a.eval op).run Try.prog w = .ok (.value v) w') (k : wpList Try.prog ops Q rest (a.put op.dst v) w') : wpList Try.prog ops Q (op :: rest) a w :=
  wpList_plain hg fun _ hK => wp_value h (hK _ _ k)

theorem l_call {c : Call} {f : FuncId} {args : Array Value} {v : Value} {R : World → Prop} (hg : op.guard = none) (hf : ∀ (args : Array Value) (w : World), (callFunc f args).run Try.prog w = .ok (.enter f args) w) (ho : op.op = .call c) (x : Operand) (hc : c.callee = .value x) (cb : Array Value) (hx : a.eval x = .func (.func f) #[] cb) (ha : (c.args.toList.map a.eval) ++ cb.toList = args.toList)
    (h : Calls Try.prog f args w (fun r w' => r = .returned v ∧ R w')) (k : ∀ w', R w' → wpList Try.prog ops Q rest (a.put op.dst v) w') : wpList Try.prog ops Q (op :: rest) a w :=
  wpList_plain hg fun _ hK => wp_callf hf ho x hc cb hx ha h fun w' hR => hK _ _ (k w' hR)

theorem op_at {i : Nat} {tl : List Oper} (h : ops.toList.drop i = op :: tl) : ops[i]? = some op := by
  rw [← Array.getElem?_toList]
  have := congrArg List.head? h
  rwa [List.head?_drop] at this

theorem d_value {i : Nat} {v : Value} {tl : List Oper} (hi : ops.toList.drop i = op :: tl) (hs : Region.noSelect ops = true) (hf : Region.free md ops listed i = true) (hr : (Region.ready md ops listed).contains i = true)
    (hw : Region.wanted op (yielded ops a.tmps) = true) (hQ : ∀ c a w, Q (.panic c) (a.put op.dst v) w → Q (.panic c) a w) (h : ∀ w, S w → (execOp a.eval op).run Try.prog w = .ok (.value v) w) (hS : S w)
    (k : wpAnyH Try.prog md ops Q S fuel (listed.setIfInBounds i true) (a.put op.dst v) w) : wpAnyH Try.prog md ops Q S (fuel + 1) listed a w :=
  wpAnyH_take (op_at hi) hs hf hr hQ (Or.inl ⟨hw, h⟩) hS k

theorem d_out {i : Nat} {tl : List Oper} (hi : ops.toList.drop i = op :: tl) (hs : Region.noSelect ops = true) (hf : Region.free md ops listed i = true) (hr : (Region.ready md ops listed).contains i = true)
    (hw : Region.wanted op (yielded ops a.tmps) = false) (hQ : ∀ c a w, Q (.panic c) (a.put op.dst undef) w → Q (.panic c) a w) (hS : S w)
    (k : wpAnyH Try.prog md ops Q S fuel (listed.setIfInBounds i true) (a.put op.dst undef) w) : wpAnyH Try.prog md ops Q S (fuel + 1) listed a w :=
  wpAnyH_take (op_at hi) hs hf hr hQ (Or.inr ⟨hw, rfl⟩) hS k

theorem d_step {i : Nat} {tl : List Oper} (hr : Region.ready md ops listed = [i]) (hi : ops.toList.drop i = op :: tl) (hw : Region.wanted op (yielded ops a.tmps) = true)
    (h : ∀ K : Act → World → Prop, (∀ a w, S w → wpAnyH Try.prog md ops Q S fuel (listed.setIfInBounds i true) a w → K a w) → op.wp Try.prog a w K Q) : wpAnyH Try.prog md ops Q S (fuel + 1) listed a w := by
  refine wpAnyH_ready hr (by simp) (AllReadyH.cons (op_at hi) (fun K hK => ?_) AllReadyH.nil)
  rw [if_pos hw]
  exact h K fun a w hS hW => hK a w hS fun _ => hW

/-- Two may come up: the one or the other. -/
theorem d_two {i m : Nat} {op2 : Oper} {tl tl2 : List Oper} (hr : Region.ready md ops listed = [i, m]) (hi : ops.toList.drop i = op :: tl) (hi2 : ops.toList.drop m = op2 :: tl2) (hw : Region.wanted op (yielded ops a.tmps) = true) (hw2 : Region.wanted op2 (yielded ops a.tmps) = true)
    (h : ∀ K : Act → World → Prop, (∀ a w, S w → wpAnyH Try.prog md ops Q S fuel (listed.setIfInBounds i true) a w → K a w) → op.wp Try.prog a w K Q)
    (h2 : ∀ K : Act → World → Prop, (∀ a w, S w → wpAnyH Try.prog md ops Q S fuel (listed.setIfInBounds m true) a w → K a w) → op2.wp Try.prog a w K Q) : wpAnyH Try.prog md ops Q S (fuel + 1) listed a w := by
  refine wpAnyH_ready hr (by simp) (AllReadyH.cons (op_at hi) (fun K hK => ?_) (AllReadyH.cons (op_at hi2) (fun K hK => ?_) AllReadyH.nil))
  · rw [if_pos hw]
    exact h K fun a w hS hW => hK a w hS fun _ => hW
  · rw [if_pos hw2]
    exact h2 K fun a w hS hW => hK a w hS fun _ => hW

theorem d_new {i : Nat} {v : Value} {w' : World} {tl : List Oper} (hr : Region.ready md ops listed = [i]) (hi : ops.toList.drop i = op :: tl) (hw : Region.wanted op (yielded ops a.tmps) = true)
    (h : (execOp a.eval op).run Try.prog w = .ok (.value v) w') (hS : S w') (k : wpAnyH Try.prog md ops Q S fuel (listed.setIfInBounds i true) (a.put op.dst v) w') : wpAnyH Try.prog md ops Q S (fuel + 1) listed a w :=
  d_step hr hi hw fun _ hK => wp_value h (hK _ _ hS k)

theorem d_call {i : Nat} {c : Call} {f : FuncId} {args : Array Value} {v : Value} {R : World → Prop} {tl : List Oper} (hr : Region.ready md ops listed = [i]) (hi : ops.toList.drop i = op :: tl) (hw : Region.wanted op (yielded ops a.tmps) = true) (hf : ∀ (args : Array Value) (w : World), (callFunc f args).run Try.prog w = .ok (.enter f args) w) (ho : op.op = .call c) (x : Operand) (hc : c.callee = .value x) (cb : Array Value) (hx : a.eval x = .func (.func f) #[] cb) (ha : (c.args.toList.map a.eval) ++ cb.toList = args.toList)
    (h : Calls Try.prog f args w (fun r w' => r = .returned v ∧ R w')) (hS : ∀ w', R w' → S w') (k : ∀ w', R w' → wpAnyH Try.prog md ops Q S fuel (listed.setIfInBounds i true) (a.put op.dst v) w') : wpAnyH Try.prog md ops Q S (fuel + 1) listed a w :=
  d_step hr hi hw fun _ hK => wp_callf hf ho x hc cb hx ha h fun w' hR => hK _ _ (hS w' hR) (k w' hR)

end

theorem nothing_new {W w' w'' : World} {g : Nat} (h : Touch Nothing W w') (hg : W.heap.size ≤ g) (t : Touch (fun i => i = g) w' w'') : Touch Nothing W w'' := h.trans t fun i hi q => by omega

theorem heap_new (w : World) (o : Obj) : (w.alloc o).heap[w.heap.size]? = some o := heap_alloc_new w o

theorem tl_true {a b : ByteArray} (h : a = b) : (a.toList == b.toList) = true := by subst h; simp
theorem tl_false {a b : ByteArray} (h : ¬ a = b) : (a.toList == b.toList) = false := by
  rw [ByteArray.toList_eq, ByteArray.toList_eq]
  refine Bool.eq_false_iff.2 fun e => h ?_
  have := eq_of_beq e
  exact ByteArray.ext (Array.toList_inj.1 this)

end Go.Proofs.Ytoegkcjclgmnbaa
