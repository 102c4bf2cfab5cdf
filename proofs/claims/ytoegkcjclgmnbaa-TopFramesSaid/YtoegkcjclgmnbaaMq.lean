/-
  Layer 11 (mail): the example of the law: a message comes through its frame (begins). Printed by mkmq.py.
-/
import Derived.Test.YtoegkcjclgmnbaaMp
import Derived.Test.YtoegkcjclgmnbaaChunks
namespace Go.Proofs.Ytoegkcjclgmnbaa
open Go.RowKit
set_option linter.unusedVariables false
set_option linter.unusedSimpArgs false

def z32 : List UInt8 := List.replicate 32 0
/-- The example. -/
def m0 : Ml := ⟨2, 3, 1, e0, ⟨z32.toArray⟩, [], []⟩
def s0 : ByteArray := ⟨(encM m0).toArray⟩
theorem m0_ok : chkM m0 = true := by decide +kernel
theorem m0_of : ofS [s0] = (fr [s0], 0) := by decide +kernel
theorem m0_take : take ⟨[], false⟩ (tx ⟨(fr [s0]).toArray⟩) = (0, ⟨fr [s0], false⟩) := by decide +kernel
theorem m0_next : next ⟨fr [s0], false⟩ = ((encM m0, true), ⟨[], false⟩) := by decide +kernel
theorem m0_size : (⟨(fr [s0]).toArray⟩ : ByteArray).size ≤ 9223372036854775807 := by decide +kernel
theorem m0_a (w : World) : MlA w (.agg (mC 2 3 1 e0 ⟨z32.toArray⟩ nilV nilV).toArray) m0 :=
  ⟨none, 0, none, 0, rfl, ⟨Nat.le_refl _, fun i hi => by simp [m0] at hi⟩, ⟨Nat.le_refl _, fun i hi => by simp [m0] at hi⟩⟩

section
variable {a : Act} {w : World} {op : Oper} {K : Act → World → Prop} {Q : Exit → Act → World → Prop}
theorem run_mk55 (ho : op.op = .makeSlice 55 (.const (.int .i64 32)) (.const (.int .i64 32))) : (execOp a.eval op).run Try.prog w = .ok (.value (.slice (some ⟨w.heap.size, 0, none⟩) 32 32)) (w.alloc (.cells (z32.map byteV).toArray 5)) := by
  have h : (Instr.makeSlice 55 (.int .i64 32) (.int .i64 32)).run Try.prog w = .ok (.slice (some ⟨w.heap.size, 0, none⟩) 32 32) (w.alloc (.cells (z32.map byteV).toArray 5)) := by kernel_rfl
  have e2 : a.eval (.const (.int .i64 32)) = .int .i64 32 := rfl
  unfold execOp
  simp only [ho, e2, Sem.run_bind, h, Result.andThen_ok, Sem.run_pure]
theorem run_bld49x {x : Operand} {s : ByteArray} (ho : op.op = .build 49 #[(0, .const (.int .i64 2)), (1, .const (.int .i64 3)), (2, .const (.int .i64 1)), (4, x)]) (hx : a.eval x = .string s) : (execOp a.eval op).run Try.prog w = .ok (.value (.agg (mC 2 3 1 e0 s nilV nilV).toArray)) w := by
  have h : (Instr.build 49 #[(0, .int .i64 2), (1, .int .i64 3), (2, .int .i64 1), (4, .string s)]).run Try.prog w = .ok (.agg (mC 2 3 1 e0 s nilV nilV).toArray) w := by kernel_rfl
  have e2 : ∀ k : Int, a.eval (.const (.int .i64 k)) = .int .i64 k := fun _ => rfl
  unfold execOp
  simp only [ho, List.map_toArray, List.map_cons, List.map_nil, hx, e2, Sem.run_bind, h, Result.andThen_ok, Sem.run_pure]
theorem run_eq23 {x y : Operand} {m n : Int} {b : Bool} (hb : decide (m = n) = b) (ho : op.op = .binOp .eql 23 x y 23) (hx : a.eval x = .int .i64 m) (hy : a.eval y = .int .i64 n) :
    (execOp a.eval op).run Try.prog w = .ok (.value (.bool b)) w := by
  subst hb
  unfold execOp
  simp only [ho, hx, hy]
  go_simp
  all_goals rfl
theorem run_nil30 {x : Operand} {p : Addr} (ho : op.op = .binOp .eql 30 x (.const (.pointer none)) 30) (hx : a.eval x = .pointer (some p)) : (execOp a.eval op).run Try.prog w = .ok (.value (.bool false)) w := by
  have e2 : a.eval (.const (.pointer none)) = .pointer none := rfl
  unfold execOp
  simp only [ho, hx, e2]
  go_simp
  all_goals rfl
end
theorem cf9 (args : Array Value) (w : World) : (callFunc 9 args).run Try.prog w = .ok (.enter 9 args) w := by kernel_rfl
theorem cf12 (args : Array Value) (w : World) : (callFunc 12 args).run Try.prog w = .ok (.enter 12 args) w := by kernel_rfl
theorem cf13 (args : Array Value) (w : World) : (callFunc 13 args).run Try.prog w = .ok (.enter 13 args) w := by kernel_rfl
theorem cf15 (args : Array Value) (w : World) : (callFunc 15 args).run Try.prog w = .ok (.enter 15 args) w := by kernel_rfl
theorem cf16 (args : Array Value) (w : World) : (callFunc 16 args).run Try.prog w = .ok (.enter 16 args) w := by kernel_rfl
theorem cf21 (args : Array Value) (w : World) : (callFunc 21 args).run Try.prog w = .ok (.enter 21 args) w := by kernel_rfl
theorem cf23 (args : Array Value) (w : World) : (callFunc 23 args).run Try.prog w = .ok (.enter 23 args) w := by kernel_rfl
theorem cf24 (args : Array Value) (w : World) : (callFunc 24 args).run Try.prog w = .ok (.enter 24 args) w := by kernel_rfl

/-- A call whose result is known but for a name: by its contract. -/
theorem wp_callx {a : Act} {w : World} {op : Oper} {K : Act → World → Prop} {Q : Exit → Act → World → Prop} {c : Call} {f : FuncId} {args : Array Value} {R : Value → World → Prop} (hf : ∀ (args : Array Value) (w : World), (callFunc f args).run Try.prog w = .ok (.enter f args) w) (ho : op.op = .call c) (x : Operand) (hc : c.callee = .value x) (cb : Array Value) (hx : a.eval x = .func (.func f) #[] cb) (ha : (c.args.toList.map a.eval) ++ cb.toList = args.toList)
    (h : Calls Try.prog f args w (fun r w' => ∃ v, r = .returned v ∧ R v w')) (k : ∀ v w', R v w' → K (a.put op.dst v) w') : op.wp Try.prog a w K Q := by
  have ha2 : c.args.map a.eval ++ cb = args := by
    apply Array.toList_inj.1
    rw [Array.toList_append, Array.toList_map]
    exact ha
  have e : (execOp a.eval op).run Try.prog w = .ok (.enter f args) w := by
    unfold execOp
    simp only [ho, resolve, hc]
    simp only [hx, Deferred.ofValue, invoke, Sem.run_bind, Sem.run_pure, Result.andThen_ok, Array.empty_append, ha2, hf]
  unfold Oper.wp
  rw [e]
  refine h.mono ?_
  rintro r w' ⟨v, rfl, hR⟩
  exact k v w' hR

set_option maxRecDepth 100000 in
set_option maxHeartbeats 3200000 in
theorem begins_any (w : World) : Calls Try.prog 21 #[] w fun e w' => e = .returned (.bool true) ∧ Touch Nothing w w' := by
  have hE := fun w' => Encode_any w' _ m0 (m0_a w') (by decide) (by decide)
  unfold encR at hE
  rw [if_pos m0_ok] at hE
  obtain ⟨s, es⟩ : ∃ s, s = s0 := ⟨_, rfl⟩
  obtain ⟨F, eF⟩ : ∃ F : ByteArray, F = ⟨(fr [s0]).toArray⟩ := ⟨_, rfl⟩
  have hE2 : ∀ w', Calls Try.prog 22 #[.agg (mC 2 3 1 e0 ⟨z32.toArray⟩ nilV nilV).toArray] w' fun r w2 => r = .returned (.tuple #[.string s, .int .i64 0]) ∧ Touch Nothing w' w2 := by rw [es]; exact hE
  have hof : ∀ w' g, w'.heap[g]? = some (.cells #[.string s] 9 (0, 0)) → Calls Try.prog 9 #[.slice (some ⟨g, 0, none⟩) 1 1] w' fun e w2 => e = .returned (.tuple #[.string F, .int .i64 0]) ∧ Touch Nothing w' w2 := by
    intro w' g hg
    have hs : StrSl w' (some ⟨g, 0, none⟩) 1 [s0] := ⟨Nat.le_refl _, fun i hi => ⟨g, 0, rfl, by
      obtain rfl : i = 0 := by simpa using hi
      rw [cell_blk hg, es]; rfl⟩⟩
    refine (of_is hs (by decide +kernel) m0_of rfl).mono fun e w2 q => ⟨?_, Touch.ofBelow0 q.2⟩
    rw [q.1, eF]
  have htk : take ⟨[], false⟩ (tx F) = (0, ⟨fr [s0], false⟩) := by rw [eF]; exact m0_take
  have hFz : F.size ≤ 9223372036854775807 := by rw [eF]; exact m0_size
  have hDc : ∀ w', Calls Try.prog 23 #[.string s] w' fun r w2 => ∃ v, r = .returned v ∧ ∃ v1, v = .tuple #[v1, .int .i64 0] ∧ MlA w2 v1 m0 ∧ Touch Nothing w' w2 := by
    intro w'
    rw [es]
    exact (Decode_any w' m0 m0_ok).mono fun e w2 ⟨v, h1, h2⟩ => ⟨_, h1, v, rfl, h2⟩
  have hNx : next ⟨fr [s0], false⟩ = ((encM m0, true), ⟨[], false⟩) := m0_next
  have esn : (⟨(encM m0).toArray⟩ : ByteArray) = s := by rw [es]; rfl
  clear hE
  replace hE2 := Lib.hid hE2
  replace hof := Lib.hid hof
  replace htk := Lib.hid htk
  replace hFz := Lib.hid hFz
  replace hDc := Lib.hid hDc
  replace hNx := Lib.hid hNx
  replace esn := Lib.hid esn
  replace es := Lib.hid es
  replace eF := Lib.hid eF
  go_enter Try.func21, Try.ntmps21
  go_upto_region 1 with fail
  refine wp_region_list ?_
  refine l_value rfl (run_mk55 rfl) ?_
  simp only [Act.put, List.setIfInBounds_toArray, List.set_cons_zero, List.set_cons_succ]
  refine l_value rfl (run_cv559 (n := 32) (bs := z32) rfl rfl rfl (heap_alloc_new w _)) ?_
  simp only [Act.put, List.setIfInBounds_toArray, List.set_cons_zero, List.set_cons_succ]
  refine l_value rfl (run_bld49x (s := ⟨z32.toArray⟩) rfl rfl) ?_
  simp only [Act.put, List.setIfInBounds_toArray, List.set_cons_zero, List.set_cons_succ]
  refine l_call (args := #[.agg (mC 2 3 1 e0 ⟨z32.toArray⟩ nilV nilV).toArray]) rfl cf22 rfl _ rfl #[] rfl rfl (hE2.out _) (fun w2 t2 => ?_)
  simp only [Act.put, List.setIfInBounds_toArray, List.set_cons_zero, List.set_cons_succ]
  refine l_value rfl (run_move (v := .tuple #[.string s, .int .i64 0]) rfl rfl) ?_
  simp only [Act.put, List.setIfInBounds_toArray, List.set_cons_zero, List.set_cons_succ]
  refine l_value rfl (run_ext (v := .string s) rfl rfl (by kernel_rfl)) ?_
  simp only [Act.put, List.setIfInBounds_toArray, List.set_cons_zero, List.set_cons_succ]
  refine l_value rfl (run_ext (v := .int .i64 0) rfl rfl (by kernel_rfl)) ?_
  simp only [Act.put, List.setIfInBounds_toArray, List.set_cons_zero, List.set_cons_succ]
  refine l_value rfl (run_asgn (v := .string s) rfl rfl) ?_
  simp only [Act.put, List.setIfInBounds_toArray, List.set_cons_zero, List.set_cons_succ]
  refine l_value rfl (run_asgn (v := .int .i64 0) rfl rfl) ?_
  simp only [Act.put, List.setIfInBounds_toArray, List.set_cons_zero, List.set_cons_succ]
  refine wpList_nil ?_
  have t3 := ((Touch.refl Nothing w).alloc (.cells (z32.map byteV).toArray 5)).trans' t2
  replace t3 := Lib.hid t3
  clear t2
  go_upto_region 2 with fail
  refine wp_region_list ?_
  refine l_value rfl (run_move (v := .string s) rfl rfl) ?_
  simp only [Act.put, List.setIfInBounds_toArray, List.set_cons_zero, List.set_cons_succ]
  refine l_value rfl (run_bs221 (y := s) rfl rfl) ?_
  simp only [Act.put, List.setIfInBounds_toArray, List.set_cons_zero, List.set_cons_succ]
  refine l_call (args := #[.slice (some ⟨w2.heap.size, 0, none⟩) 1 1]) rfl cf9 rfl _ rfl #[] rfl rfl (hof.out _ _ (heap_alloc_new w2 _)) (fun w4 t4 => ?_)
  simp only [Act.put, List.setIfInBounds_toArray, List.set_cons_zero, List.set_cons_succ]
  refine l_value rfl (run_move (v := .tuple #[.string F, .int .i64 0]) rfl rfl) ?_
  simp only [Act.put, List.setIfInBounds_toArray, List.set_cons_zero, List.set_cons_succ]
  refine l_value rfl (run_ext (v := .string F) rfl rfl (by kernel_rfl)) ?_
  simp only [Act.put, List.setIfInBounds_toArray, List.set_cons_zero, List.set_cons_succ]
  refine l_value rfl (run_ext (v := .int .i64 0) rfl rfl (by kernel_rfl)) ?_
  simp only [Act.put, List.setIfInBounds_toArray, List.set_cons_zero, List.set_cons_succ]
  refine l_value rfl (run_asgn (v := .string F) rfl rfl) ?_
  simp only [Act.put, List.setIfInBounds_toArray, List.set_cons_zero, List.set_cons_succ]
  refine l_value rfl (run_asgn (v := .int .i64 0) rfl rfl) ?_
  simp only [Act.put, List.setIfInBounds_toArray, List.set_cons_zero, List.set_cons_succ]
  refine wpList_nil ?_
  have t5 := (t3.out.alloc (.cells #[.string s] 9)).trans' t4
  replace t5 := Lib.hid t5
  clear t4 t3
  go_upto_region 3 with fail
  refine wp_region_list ?_
  refine l_call (args := #[]) rfl cf12 rfl _ rfl #[] rfl rfl (new_any w4) (fun w5 e5 => ?_)
  simp only [Act.put, List.setIfInBounds_toArray, List.set_cons_zero, List.set_cons_succ]
  refine l_value rfl (run_asgn rfl rfl) ?_
  simp only [Act.put, List.setIfInBounds_toArray, List.set_cons_zero, List.set_cons_succ]
  refine wpList_nil ?_
  have hR := new_rd w4
  have t6 := t5.out.alloc (.cells #[.slice none 0 0, .int .i64 0, .bool false] 67)
  have hgl := t5.out.size
  rw [← e5] at hR t6
  obtain ⟨g, eg⟩ : ∃ g, g = w4.heap.size := ⟨_, rfl⟩
  rw [← eg] at hR hgl ⊢
  replace hR := Lib.hid hR
  replace t6 := Lib.hid t6
  replace e5 := Lib.hid e5
  replace eg := Lib.hid eg
  clear t5
  go_upto_region 4 with fail
  refine wp_region_list ?_
  refine l_value rfl (run_move (v := .int .i64 0) rfl rfl) ?_
  simp only [Act.put, List.setIfInBounds_toArray, List.set_cons_zero, List.set_cons_succ]
  refine l_value rfl (run_ne23 (b := false) (by rfl) rfl rfl rfl) ?_
  simp only [Act.put, List.setIfInBounds_toArray, List.set_cons_zero, List.set_cons_succ]
  refine l_value rfl (run_move (v := .bool false) rfl rfl) ?_
  simp only [Act.put, List.setIfInBounds_toArray, List.set_cons_zero, List.set_cons_succ]
  refine BigFrame.wpList_want (by kernel_rfl) (fun _ hK => wp_value (run_move (v := .int .i64 0) rfl rfl) (hK _ _ ?_))
  clear hK
  simp only [Act.put, List.setIfInBounds_toArray, List.set_cons_zero, List.set_cons_succ]
  refine BigFrame.wpList_want (by kernel_rfl) (fun _ hK => wp_value (run_ne23 (b := false) (by rfl) rfl rfl rfl) (hK _ _ ?_))
  clear hK
  simp only [Act.put, List.setIfInBounds_toArray, List.set_cons_zero, List.set_cons_succ]
  refine l_value rfl (run_pickF (v := .bool false) rfl rfl rfl) ?_
  simp only [Act.put, List.setIfInBounds_toArray, List.set_cons_zero, List.set_cons_succ]
  refine l_value rfl (run_move (v := .bool false) rfl rfl) ?_
  simp only [Act.put, List.setIfInBounds_toArray, List.set_cons_zero, List.set_cons_succ]
  refine BigFrame.wpList_want (by kernel_rfl) (fun _ hK => wp_value (run_move rfl rfl) (hK _ _ ?_))
  clear hK
  simp only [Act.put, List.setIfInBounds_toArray, List.set_cons_zero, List.set_cons_succ]
  refine BigFrame.wpList_want (by kernel_rfl) (fun _ hK => wp_value (run_nil30 rfl rfl) (hK _ _ ?_))
  clear hK
  simp only [Act.put, List.setIfInBounds_toArray, List.set_cons_zero, List.set_cons_succ]
  refine l_value rfl (run_pickF (v := .bool false) rfl rfl rfl) ?_
  simp only [Act.put, List.setIfInBounds_toArray, List.set_cons_zero, List.set_cons_succ]
  refine l_value rfl (run_move (v := .bool false) rfl rfl) ?_
  simp only [Act.put, List.setIfInBounds_toArray, List.set_cons_zero, List.set_cons_succ]
  refine BigFrame.wpList_want (by kernel_rfl) (fun _ hK => wp_value (run_move rfl rfl) (hK _ _ ?_))
  clear hK
  simp only [Act.put, List.setIfInBounds_toArray, List.set_cons_zero, List.set_cons_succ]
  refine BigFrame.wpList_want (by kernel_rfl) (fun _ hK => wp_value (run_move (v := .string F) rfl rfl) (hK _ _ ?_))
  clear hK
  simp only [Act.put, List.setIfInBounds_toArray, List.set_cons_zero, List.set_cons_succ]
  refine BigFrame.wpList_want (by kernel_rfl) (fun K hK => wp_callf (args := #[.pointer (some ⟨g, 0, none⟩), .string F]) (v := .int .i64 0) cf13 rfl _ rfl #[] rfl rfl (take_is hR.out hFz.out htk.out) (fun w7 t7 => hK _ _ ?_))
  clear hK K
  simp only [Act.put, List.setIfInBounds_toArray, List.set_cons_zero, List.set_cons_succ]
  refine BigFrame.wpList_want (by kernel_rfl) (fun _ hK => wp_value (run_ne23 (b := false) (by rfl) rfl rfl rfl) (hK _ _ ?_))
  clear hK
  simp only [Act.put, List.setIfInBounds_toArray, List.set_cons_zero, List.set_cons_succ]
  refine l_value rfl (run_pickF (v := .bool false) rfl rfl rfl) ?_
  simp only [Act.put, List.setIfInBounds_toArray, List.set_cons_zero, List.set_cons_succ]
  refine wpList_nil ?_
  obtain ⟨sv7, hR7, u7, hs7⟩ := t7
  have t8 : Touch Nothing w w7 := t6.out.trans u7 (fun i hi q => by
    rcases q with q | q
    · omega
    · simp [Value.ownBlock] at q)
  have hs8 : ∀ k, sv7.ownBlock = some k → w.heap.size ≤ k := fun k hk => by
    rcases hs7 k hk with q | q
    · simp [Value.ownBlock] at q
    · have := t6.out.size; omega
  replace hR7 := Lib.hid hR7
  replace t8 := Lib.hid t8
  replace hs8 := Lib.hid hs8
  clear u7 hs7 t6
  go_upto_region 6 with fail
  refine wp_region_list ?_
  refine l_value rfl (run_move rfl rfl) ?_
  simp only [Act.put, List.setIfInBounds_toArray, List.set_cons_zero, List.set_cons_succ]
  refine l_call (args := #[.pointer (some ⟨g, 0, none⟩)]) rfl cf16 rfl _ rfl #[] rfl rfl (next_is hR7.out hNx.out) (fun w9 t9 => ?_)
  rw [esn.out]
  simp only [Act.put, List.setIfInBounds_toArray, List.set_cons_zero, List.set_cons_succ]
  refine l_value rfl (run_move (v := .tuple #[.string s, .bool true]) rfl rfl) ?_
  simp only [Act.put, List.setIfInBounds_toArray, List.set_cons_zero, List.set_cons_succ]
  refine l_value rfl (run_ext (v := .string s) rfl rfl (by kernel_rfl)) ?_
  simp only [Act.put, List.setIfInBounds_toArray, List.set_cons_zero, List.set_cons_succ]
  refine l_value rfl (run_ext (v := .bool true) rfl rfl (by kernel_rfl)) ?_
  simp only [Act.put, List.setIfInBounds_toArray, List.set_cons_zero, List.set_cons_succ]
  refine l_value rfl (run_asgn (v := .string s) rfl rfl) ?_
  simp only [Act.put, List.setIfInBounds_toArray, List.set_cons_zero, List.set_cons_succ]
  refine l_value rfl (run_asgn (v := .bool true) rfl rfl) ?_
  simp only [Act.put, List.setIfInBounds_toArray, List.set_cons_zero, List.set_cons_succ]
  refine wpList_nil ?_
  obtain ⟨sv9, hR9, u9, hs9⟩ := t9
  have t10 : Touch Nothing w w9 := t8.out.trans u9 (fun i hi q => by
    rcases q with q | q
    · omega
    · have := hs8.out i q; omega)
  replace t10 := Lib.hid t10
  clear u9 hs9 hR9
  go_upto_region 7 with fail
  refine wp_region_list ?_
  refine l_value rfl (run_move (v := .string s) rfl rfl) ?_
  simp only [Act.put, List.setIfInBounds_toArray, List.set_cons_zero, List.set_cons_succ]
  refine wpList_plain rfl (fun K hK => wp_callx (args := #[.string s]) cf23 rfl _ rfl #[] rfl rfl (hDc.out w9) (fun v w11 hq => hK _ _ ?_))
  clear hK K
  obtain ⟨v1, rfl, hA, t11⟩ := hq
  obtain ⟨ps, cs, pi, ci, rfl, _, _⟩ := hA
  obtain ⟨Cs, eC⟩ : ∃ C, C = mlCs m0 ps cs pi ci := ⟨_, rfl⟩
  have hC7 : Cs.length = 7 := by rw [eC]; rfl
  have hC1 : Cs.toArray.all (·.oneCell') = true := by rw [eC]; simp [mlCs, Value.oneCell']
  have hCa : Cs[1]? = some (.int .i64 3) := by rw [eC]; rfl
  have hCb : Cs[2]? = some (.int .i64 1) := by rw [eC]; rfl
  rw [← eC]
  have t12 := t10.out.trans' t11
  clear eC t11
  simp only [Act.put, List.setIfInBounds_toArray, List.set_cons_zero, List.set_cons_succ]
  refine l_value rfl (run_move (v := .tuple #[.agg Cs.toArray, .int .i64 0]) rfl rfl) ?_
  simp only [Act.put, List.setIfInBounds_toArray, List.set_cons_zero, List.set_cons_succ]
  refine l_value rfl (run_ext (v := .agg Cs.toArray) rfl rfl (by kernel_rfl)) ?_
  simp only [Act.put, List.setIfInBounds_toArray, List.set_cons_zero, List.set_cons_succ]
  refine l_value rfl (run_ext (v := .int .i64 0) rfl rfl (by kernel_rfl)) ?_
  simp only [Act.put, List.setIfInBounds_toArray, List.set_cons_zero, List.set_cons_succ]
  refine l_value rfl (run_al49 rfl) ?_
  simp only [Act.put, List.setIfInBounds_toArray, List.set_cons_zero, List.set_cons_succ]
  have t13 := t12.alloc (.cells zeroC.toArray 49)
  have b13 := heap_alloc_new w11 (.cells zeroC.toArray 49)
  have z13 := t12.size
  obtain ⟨h, eh⟩ : ∃ h, h = w11.heap.size := ⟨_, rfl⟩
  rw [← eh] at b13 z13 ⊢
  refine wpList_plain rfl fun _ hK => wp_st49 (g := h) (C := zeroC) (D := Cs) rfl rfl rfl rfl hC7 b13 hC1 (fun w14 h14 t14 => hK _ _ ?_)
  clear hK
  simp only [Act.put, List.setIfInBounds_toArray, List.set_cons_zero, List.set_cons_succ]
  refine l_value rfl (run_asgn (v := .int .i64 0) rfl rfl) ?_
  simp only [Act.put, List.setIfInBounds_toArray, List.set_cons_zero, List.set_cons_succ]
  refine wpList_nil ?_
  have t15 : Touch Nothing w w14 := t13.trans t14 (fun i hi q => by omega)
  have c1 : w14.cell? ⟨h, 1, none⟩ = some (.int .i64 3) := by rw [cell_at h14]; simpa using hCa
  have c2 : w14.cell? ⟨h, 2, none⟩ = some (.int .i64 1) := by rw [cell_at h14]; simpa using hCb
  replace t15 := Lib.hid t15
  replace c1 := Lib.hid c1
  replace c2 := Lib.hid c2
  clear t14 h14 t13 b13 z13 t12 hCa hCb hC1 hC7
  go_upto_region 8 with fail
  refine wp_region_list ?_
  refine l_value rfl (run_move (v := .bool true) rfl rfl) ?_
  simp only [Act.put, List.setIfInBounds_toArray, List.set_cons_zero, List.set_cons_succ]
  refine l_value rfl (run_move (v := .bool true) rfl rfl) ?_
  simp only [Act.put, List.setIfInBounds_toArray, List.set_cons_zero, List.set_cons_succ]
  refine BigFrame.wpList_want (by kernel_rfl) (fun _ hK => wp_value (run_move (v := .int .i64 0) rfl rfl) (hK _ _ ?_))
  clear hK
  simp only [Act.put, List.setIfInBounds_toArray, List.set_cons_zero, List.set_cons_succ]
  refine BigFrame.wpList_want (by kernel_rfl) (fun _ hK => wp_value (run_eq23 (b := true) (by rfl) rfl rfl rfl) (hK _ _ ?_))
  clear hK
  simp only [Act.put, List.setIfInBounds_toArray, List.set_cons_zero, List.set_cons_succ]
  refine l_value rfl (run_pickT (v := .bool true) rfl rfl rfl) ?_
  simp only [Act.put, List.setIfInBounds_toArray, List.set_cons_zero, List.set_cons_succ]
  refine l_value rfl (run_move (v := .bool true) rfl rfl) ?_
  simp only [Act.put, List.setIfInBounds_toArray, List.set_cons_zero, List.set_cons_succ]
  refine BigFrame.wpList_want (by kernel_rfl) (fun _ hK => wp_value (run_f49 1 rfl rfl (by decide)) (hK _ _ ?_))
  clear hK
  simp only [Act.put, List.setIfInBounds_toArray, List.set_cons_zero, List.set_cons_succ]
  refine BigFrame.wpList_want (by kernel_rfl) (fun _ hK => wp_value (run_ld3 rfl rfl c1.out) (hK _ _ ?_))
  clear hK
  simp only [Act.put, List.setIfInBounds_toArray, List.set_cons_zero, List.set_cons_succ]
  refine BigFrame.wpList_want (by kernel_rfl) (fun _ hK => wp_value (run_eq3 (b := true) (m := 3) (n := 3) (by rfl) rfl rfl rfl) (hK _ _ ?_))
  clear hK
  simp only [Act.put, List.setIfInBounds_toArray, List.set_cons_zero, List.set_cons_succ]
  refine l_value rfl (run_pickT (v := .bool true) rfl rfl rfl) ?_
  simp only [Act.put, List.setIfInBounds_toArray, List.set_cons_zero, List.set_cons_succ]
  refine l_value rfl (run_move (v := .bool true) rfl rfl) ?_
  simp only [Act.put, List.setIfInBounds_toArray, List.set_cons_zero, List.set_cons_succ]
  refine BigFrame.wpList_want (by kernel_rfl) (fun _ hK => wp_value (run_f49 2 rfl rfl (by decide)) (hK _ _ ?_))
  clear hK
  simp only [Act.put, List.setIfInBounds_toArray, List.set_cons_zero, List.set_cons_succ]
  refine BigFrame.wpList_want (by kernel_rfl) (fun _ hK => wp_value (run_ld3 rfl rfl c2.out) (hK _ _ ?_))
  clear hK
  simp only [Act.put, List.setIfInBounds_toArray, List.set_cons_zero, List.set_cons_succ]
  refine BigFrame.wpList_want (by kernel_rfl) (fun _ hK => wp_value (run_eq3 (b := true) (m := 1) (n := 1) (by rfl) rfl rfl rfl) (hK _ _ ?_))
  clear hK
  simp only [Act.put, List.setIfInBounds_toArray, List.set_cons_zero, List.set_cons_succ]
  refine l_value rfl (run_pickT (v := .bool true) rfl rfl rfl) ?_
  simp only [Act.put, List.setIfInBounds_toArray, List.set_cons_zero, List.set_cons_succ]
  refine l_value rfl (run_asgn (v := .bool true) rfl rfl) ?_
  simp only [Act.put, List.setIfInBounds_toArray, List.set_cons_zero, List.set_cons_succ]
  refine wpList_nil ?_
  go_wp2
  go_ret
  exact ⟨rfl, t15.out⟩

end Go.Proofs.Ytoegkcjclgmnbaa
