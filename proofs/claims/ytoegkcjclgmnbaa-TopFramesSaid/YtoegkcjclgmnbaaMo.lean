/-
  Layer 11 (mail): the book's SameTexts, SameSlots, SameMail on equal messages. Printed by mkmo.py.
-/
import Derived.Test.YtoegkcjclgmnbaaMn
namespace Go.Proofs.Ytoegkcjclgmnbaa
open Go.RowKit
set_option linter.unusedVariables false
set_option linter.unusedSimpArgs false

section
variable {a : Act} {w : World} {op : Oper} {K : Act → World → Prop} {Q : Exit → Act → World → Prop}
theorem run_ia22 {x y : Operand} {g o n c : Nat} (i : Nat) (ho : op.op = .indexAddr 22 x y) (hx : a.eval x = .slice (some ⟨g, o, none⟩) n c) (hy : a.eval y = .int .i64 (i : Int)) (hi : i < n) :
    (execOp a.eval op).run Try.prog w = .ok (.value (.pointer (some ⟨g, o + i, none⟩))) w := by
  have h0 : (0 : Int) ≤ (i : Int) := by omega
  have h1 : (i : Int) < (n : Int) := by omega
  unfold execOp
  simp only [ho, hx, hy]
  go_simp
theorem run_ia47 {x y : Operand} {g o n c : Nat} (i : Nat) (ho : op.op = .indexAddr 47 x y) (hx : a.eval x = .slice (some ⟨g, o, none⟩) n c) (hy : a.eval y = .int .i64 (i : Int)) (hi : i < n) :
    (execOp a.eval op).run Try.prog w = .ok (.value (.pointer (some ⟨g, o + i * 2, none⟩))) w := by
  have h0 : (0 : Int) ≤ (i : Int) := by omega
  have h1 : (i : Int) < (n : Int) := by omega
  unfold execOp
  simp only [ho, hx, hy]
  go_simp
theorem run_ne74o {x y : Operand} {s t : ByteArray × ByteArray} {b : Bool} (hb : (!decide (s = t)) = b) (ho : op.op = .binOp .neq 74 x y 74) (hx : a.eval x = slV s) (hy : a.eval y = slV t) :
    (execOp a.eval op).run Try.prog w = .ok (.value (.bool b)) w := by
  subst hb
  have h1 := run_ne74 w s t
  have h2 := run_g74 w .neq x y s t
  unfold execOp
  simp only [ho, hx, hy, Sem.run_bind, h1, h2, Result.andThen_ok, Sem.run_pure]
theorem box49 (w : World) (c0 c1 c2 c3 c4 c5 c6 : Value) : (Instr.box 49 (.agg [c0, c1, c2, c3, c4, c5, c6].toArray)).run Try.prog w = .ok (.pointer (some ⟨w.heap.size, 0, none⟩)) (w.alloc (.cells [c0, c1, c2, c3, c4, c5, c6].toArray 49)) := by kernel_rfl
theorem run_box49 {x : Operand} {C : List Value} (hC : C.length = 7) (ho : op.op = .box 49 x) (hx : a.eval x = .agg C.toArray) : (execOp a.eval op).run Try.prog w = .ok (.value (.pointer (some ⟨w.heap.size, 0, none⟩))) (w.alloc (.cells C.toArray 49)) := by
  match C, hC, hx with
  | [c0, c1, c2, c3, c4, c5, c6], _, hx => exact run_box ho hx (box49 w c0 c1 c2 c3 c4 c5 c6)
theorem run_pickT {c x y : Operand} {v : Value} (ho : op.op = .pick c x y) (hc : a.eval c = .bool true) (hy : a.eval x = v) :
    (execOp a.eval op).run Try.prog w = .ok (.value v) w := by
  unfold execOp
  simp only [ho, hc, hy]
  go_simp
end

theorem rangeSl {w : World} {g o : Nat} {x : ByteArray × ByteArray} (h0 : w.cell? ⟨g, o, none⟩ = some (.string x.1)) (h1 : w.cell? ⟨g, o + 1, none⟩ = some (.string x.2)) : w.rangeAt g o (slC x) := by
  intro j v hv
  unfold slC at hv
  match j with
  | 0 => simp at hv; subst hv; exact h0
  | 1 => simp at hv; subst hv; exact h1
  | j + 2 => simp at hv

set_option maxRecDepth 100000 in
theorem SameTexts_any (w : World) (p p2 : Option Addr) (c c2 : Nat) (L : List ByteArray) (h : StrSl w p c L) (h2 : StrSl w p2 c2 L) (hl : L.length ≤ 4611686018427387904) :
    Calls Try.prog 40 #[.slice p L.length c, .slice p2 L.length c2] w fun r w' => r = .returned (.bool true) ∧ Touch Nothing w w' := by
  obtain ⟨n, hn⟩ : ∃ n, n = L.length := ⟨_, rfl⟩
  rw [← hn] at hl ⊢
  replace h := Lib.hid h
  replace h2 := Lib.hid h2
  replace hn := Lib.hid hn
  go_enter Try.func40, Try.ntmps40
  go_wp2
  go_loopw [5] (fun iv wr => ∃ i : Nat, i ≤ n ∧ iv = .int .i64 (i : Int) ∧ Touch Nothing w wr) (fun iv _ => n - (intOf iv).toNat)
  case atStart => exact ⟨0, Nat.zero_le _, rfl, Touch.refl _ _⟩
  case round =>
    obtain ⟨i, hi, rfl, ht⟩ := hrel
    by_cases hlt : i < n
    · have hiL : i < L.length := by rw [← hn.out]; exact hlt
      obtain ⟨g, o, rfl, hc0⟩ := (h.out.keep0 ht).2 i hiL
      obtain ⟨g2, o2, rfl, hd0⟩ := (h2.out.keep0 ht).2 i hiL
      obtain ⟨x, hx⟩ : ∃ x, x = L[i] := ⟨_, rfl⟩
      rw [← hx] at hc0 hd0
      have i0 : (0 : Int) ≤ (i : Int) := by omega
      have i1 : (i : Int) < (n : Int) := by omega
      have i2 : IntKind.i64.wrap ((i : Int) + 1) = (i : Int) + 1 := by rw [IntKind.wrap_i64]; omega
      replace hx := Lib.hid hx
      replace hc0 := Lib.hid hc0
      replace hd0 := Lib.hid hd0
      go_upto_region 6 with fail
      refine wp_region_held_drew (S := fun w' => Touch Nothing wr w') (by kernel_rfl) ((Touch.refl Nothing wr).drew) (fun hS0 => ?_)
      refine d_value (i := 0) rfl (by kernel_rfl) (by kernel_rfl) (by kernel_rfl) rfl (fun _ _ _ h => h) (fun w9 hS => run_move rfl rfl) hS0 ?_
      simp only [Act.put, List.setIfInBounds_toArray, List.set_cons_zero, List.set_cons_succ]
      refine d_value (i := 1) rfl (by kernel_rfl) (by kernel_rfl) (by kernel_rfl) rfl (fun _ _ _ h => h) (fun w9 hS => run_move rfl rfl) hS0 ?_
      simp only [Act.put, List.setIfInBounds_toArray, List.set_cons_zero, List.set_cons_succ]
      refine d_value (i := 2) rfl (by kernel_rfl) (by kernel_rfl) (by kernel_rfl) rfl (fun _ _ _ h => h) (fun w9 hS => run_ia22 i rfl rfl rfl hlt) hS0 ?_
      simp only [Act.put, List.setIfInBounds_toArray, List.set_cons_zero, List.set_cons_succ]
      refine d_value (i := 3) rfl (by kernel_rfl) (by kernel_rfl) (by kernel_rfl) rfl (fun _ _ _ h => h) (fun w9 hS => run_ld9 (v := .string x) rfl rfl (hS.cell hc0.out (fun q => q))) hS0 ?_
      simp only [Act.put, List.setIfInBounds_toArray, List.set_cons_zero, List.set_cons_succ]
      refine d_value (i := 4) rfl (by kernel_rfl) (by kernel_rfl) (by kernel_rfl) rfl (fun _ _ _ h => h) (fun w9 hS => run_move rfl rfl) hS0 ?_
      simp only [Act.put, List.setIfInBounds_toArray, List.set_cons_zero, List.set_cons_succ]
      refine d_value (i := 5) rfl (by kernel_rfl) (by kernel_rfl) (by kernel_rfl) rfl (fun _ _ _ h => h) (fun w9 hS => run_move rfl rfl) hS0 ?_
      simp only [Act.put, List.setIfInBounds_toArray, List.set_cons_zero, List.set_cons_succ]
      refine d_value (i := 6) rfl (by kernel_rfl) (by kernel_rfl) (by kernel_rfl) rfl (fun _ _ _ h => h) (fun w9 hS => run_ia22 i rfl rfl rfl hlt) hS0 ?_
      simp only [Act.put, List.setIfInBounds_toArray, List.set_cons_zero, List.set_cons_succ]
      refine d_value (i := 7) rfl (by kernel_rfl) (by kernel_rfl) (by kernel_rfl) rfl (fun _ _ _ h => h) (fun w9 hS => run_ld9 (v := .string x) rfl rfl (hS.cell hd0.out (fun q => q))) hS0 ?_
      simp only [Act.put, List.setIfInBounds_toArray, List.set_cons_zero, List.set_cons_succ]
      refine d_value (i := 8) rfl (by kernel_rfl) (by kernel_rfl) (by kernel_rfl) rfl (fun _ _ _ h => h) (fun w9 hS => run_nes (s := x) (t := x) (b := false) (by simp) rfl rfl rfl) hS0 ?_
      simp only [Act.put, List.setIfInBounds_toArray, List.set_cons_zero, List.set_cons_succ]
      refine wpAnyH_done (by kernel_rfl) ?_ _
      have t9 := ht.drew
      replace t9 := Lib.hid t9
      clear hS0 ht
      go_wp2
      exact ⟨⟨i + 1, by omega, by simp, t9.out⟩, by simp [intOf]; omega⟩
    · have i1 : ¬ (i : Int) < (n : Int) := by omega
      go_wp2
      go_ret
      exact ⟨rfl, ht⟩

set_option maxRecDepth 100000 in
theorem SameSlots_any (w : World) (p p2 : Option Addr) (c c2 : Nat) (L : List (ByteArray × ByteArray)) (h : SlSl w p c L) (h2 : SlSl w p2 c2 L) (hl : L.length ≤ 4611686018427387904) :
    Calls Try.prog 39 #[.slice p L.length c, .slice p2 L.length c2] w fun r w' => r = .returned (.bool true) ∧ Touch Nothing w w' := by
  obtain ⟨n, hn⟩ : ∃ n, n = L.length := ⟨_, rfl⟩
  rw [← hn] at hl ⊢
  replace h := Lib.hid h
  replace h2 := Lib.hid h2
  replace hn := Lib.hid hn
  go_enter Try.func39, Try.ntmps39
  go_wp2
  go_loopw [5] (fun iv wr => ∃ i : Nat, i ≤ n ∧ iv = .int .i64 (i : Int) ∧ Touch Nothing w wr) (fun iv _ => n - (intOf iv).toNat)
  case atStart => exact ⟨0, Nat.zero_le _, rfl, Touch.refl _ _⟩
  case round =>
    obtain ⟨i, hi, rfl, ht⟩ := hrel
    by_cases hlt : i < n
    · have hiL : i < L.length := by rw [← hn.out]; exact hlt
      obtain ⟨g, o, rfl, hc0, hc1⟩ := (h.out.keep ht).2 i hiL
      obtain ⟨g2, o2, rfl, hd0, hd1⟩ := (h2.out.keep ht).2 i hiL
      obtain ⟨x, hx⟩ : ∃ x, x = L[i] := ⟨_, rfl⟩
      rw [← hx] at hc0 hd0 hc1 hd1
      replace hc1 := Lib.hid hc1
      replace hd1 := Lib.hid hd1
      have i0 : (0 : Int) ≤ (i : Int) := by omega
      have i1 : (i : Int) < (n : Int) := by omega
      have i2 : IntKind.i64.wrap ((i : Int) + 1) = (i : Int) + 1 := by rw [IntKind.wrap_i64]; omega
      replace hx := Lib.hid hx
      replace hc0 := Lib.hid hc0
      replace hd0 := Lib.hid hd0
      go_upto_region 6 with fail
      refine wp_region_held_drew (S := fun w' => Touch Nothing wr w') (by kernel_rfl) ((Touch.refl Nothing wr).drew) (fun hS0 => ?_)
      refine d_value (i := 0) rfl (by kernel_rfl) (by kernel_rfl) (by kernel_rfl) rfl (fun _ _ _ h => h) (fun w9 hS => run_move rfl rfl) hS0 ?_
      simp only [Act.put, List.setIfInBounds_toArray, List.set_cons_zero, List.set_cons_succ]
      refine d_value (i := 1) rfl (by kernel_rfl) (by kernel_rfl) (by kernel_rfl) rfl (fun _ _ _ h => h) (fun w9 hS => run_move rfl rfl) hS0 ?_
      simp only [Act.put, List.setIfInBounds_toArray, List.set_cons_zero, List.set_cons_succ]
      refine d_value (i := 2) rfl (by kernel_rfl) (by kernel_rfl) (by kernel_rfl) rfl (fun _ _ _ h => h) (fun w9 hS => run_ia47 i rfl rfl rfl hlt) hS0 ?_
      simp only [Act.put, List.setIfInBounds_toArray, List.set_cons_zero, List.set_cons_succ]
      refine d_value (i := 3) rfl (by kernel_rfl) (by kernel_rfl) (by kernel_rfl) rfl (fun _ _ _ h => h) (fun w9 hS => run_loadR (cs := slC x) rfl rfl (rangeSl (hS.cell hc0.out (fun q => q)) (hS.cell hc1.out (fun q => q))) Try.underlying74 rfl (by kernel_rfl)) hS0 ?_
      simp only [Act.put, List.setIfInBounds_toArray, List.set_cons_zero, List.set_cons_succ]
      refine d_value (i := 4) rfl (by kernel_rfl) (by kernel_rfl) (by kernel_rfl) rfl (fun _ _ _ h => h) (fun w9 hS => run_move rfl rfl) hS0 ?_
      simp only [Act.put, List.setIfInBounds_toArray, List.set_cons_zero, List.set_cons_succ]
      refine d_value (i := 5) rfl (by kernel_rfl) (by kernel_rfl) (by kernel_rfl) rfl (fun _ _ _ h => h) (fun w9 hS => run_move rfl rfl) hS0 ?_
      simp only [Act.put, List.setIfInBounds_toArray, List.set_cons_zero, List.set_cons_succ]
      refine d_value (i := 6) rfl (by kernel_rfl) (by kernel_rfl) (by kernel_rfl) rfl (fun _ _ _ h => h) (fun w9 hS => run_ia47 i rfl rfl rfl hlt) hS0 ?_
      simp only [Act.put, List.setIfInBounds_toArray, List.set_cons_zero, List.set_cons_succ]
      refine d_value (i := 7) rfl (by kernel_rfl) (by kernel_rfl) (by kernel_rfl) rfl (fun _ _ _ h => h) (fun w9 hS => run_loadR (cs := slC x) rfl rfl (rangeSl (hS.cell hd0.out (fun q => q)) (hS.cell hd1.out (fun q => q))) Try.underlying74 rfl (by kernel_rfl)) hS0 ?_
      simp only [Act.put, List.setIfInBounds_toArray, List.set_cons_zero, List.set_cons_succ]
      refine d_value (i := 8) rfl (by kernel_rfl) (by kernel_rfl) (by kernel_rfl) rfl (fun _ _ _ h => h) (fun w9 hS => run_ne74o (s := x) (t := x) (b := false) (by simp) rfl rfl rfl) hS0 ?_
      simp only [Act.put, List.setIfInBounds_toArray, List.set_cons_zero, List.set_cons_succ]
      refine wpAnyH_done (by kernel_rfl) ?_ _
      have t9 := ht.drew
      replace t9 := Lib.hid t9
      clear hS0 ht
      go_wp2
      exact ⟨⟨i + 1, by omega, by simp, t9.out⟩, by simp [intOf]; omega⟩
    · have i1 : ¬ (i : Int) < (n : Int) := by omega
      go_wp2
      go_ret
      exact ⟨rfl, ht⟩

theorem cf39 (args : Array Value) (w : World) : (callFunc 39 args).run Try.prog w = .ok (.enter 39 args) w := by kernel_rfl
theorem cf40 (args : Array Value) (w : World) : (callFunc 40 args).run Try.prog w = .ok (.enter 40 args) w := by kernel_rfl

set_option maxRecDepth 100000 in
set_option maxHeartbeats 3200000 in
theorem SameMail_any (w : World) (v v2 : Value) (m : Ml) (h : MlA w v m) (h2 : MlA w v2 m) (hl : m.s.length ≤ 4611686018427387904) (hl2 : m.i.length ≤ 4611686018427387904) :
    Calls Try.prog 24 #[v, v2] w fun r w' => r = .returned (.bool true) ∧ Touch Nothing w w' := by
  obtain ⟨ps, cs, pi, ci, rfl, hS, hI⟩ := h
  obtain ⟨ps2, cs2, pi2, ci2, rfl, hS2, hI2⟩ := h2
  obtain ⟨mk, mu, mq, mx, mg, ms, mi⟩ := m
  have hSS := fun w' (t : Touch Nothing w w') => SameSlots_any w' ps ps2 cs cs2 ms (hS.keep t) (hS2.keep t) hl
  have hTT := fun w' (t : Touch Nothing w w') => SameTexts_any w' pi pi2 ci ci2 mi (hI.keep0 t) (hI2.keep0 t) hl2
  unfold mlCs
  simp only []
  obtain ⟨ns, hns⟩ : ∃ n, n = ms.length := ⟨_, rfl⟩
  obtain ⟨ni, hni⟩ : ∃ n, n = mi.length := ⟨_, rfl⟩
  rw [← hns] at hSS ⊢
  rw [← hni] at hTT ⊢
  replace hSS := Lib.hid hSS
  replace hTT := Lib.hid hTT
  clear hS hI hS2 hI2 hl hl2 hns hni
  have a1 := heap_alloc_new w (.cells [Value.int .i64 mk, .int .i64 mu, .int .i64 mq, .string mx, .string mg, .slice ps ns cs, .slice pi ni ci].toArray 49)
  have t1 := (Touch.refl Nothing w).alloc (.cells [Value.int .i64 mk, .int .i64 mu, .int .i64 mq, .string mx, .string mg, .slice ps ns cs, .slice pi ni ci].toArray 49)
  obtain ⟨W1, eW1⟩ : ∃ W, W = w.alloc (.cells [Value.int .i64 mk, .int .i64 mu, .int .i64 mq, .string mx, .string mg, .slice ps ns cs, .slice pi ni ci].toArray 49) := ⟨_, rfl⟩
  obtain ⟨g1, eg1⟩ : ∃ g, g = w.heap.size := ⟨_, rfl⟩
  rw [← eW1] at a1 t1
  rw [← eg1] at a1
  have b1 := heap_alloc_new W1 (.cells [Value.int .i64 mk, .int .i64 mu, .int .i64 mq, .string mx, .string mg, .slice ps2 ns cs2, .slice pi2 ni ci2].toArray 49)
  have t2 := t1.alloc (.cells [Value.int .i64 mk, .int .i64 mu, .int .i64 mq, .string mx, .string mg, .slice ps2 ns cs2, .slice pi2 ni ci2].toArray 49)
  have a2 := ((Touch.refl Nothing W1).alloc (.cells [Value.int .i64 mk, .int .i64 mu, .int .i64 mq, .string mx, .string mg, .slice ps2 ns cs2, .slice pi2 ni ci2].toArray 49)).heap a1 (fun q => q)
  obtain ⟨W2, eW2⟩ : ∃ W, W = W1.alloc (.cells [Value.int .i64 mk, .int .i64 mu, .int .i64 mq, .string mx, .string mg, .slice ps2 ns cs2, .slice pi2 ni ci2].toArray 49) := ⟨_, rfl⟩
  obtain ⟨g2, eg2⟩ : ∃ g, g = W1.heap.size := ⟨_, rfl⟩
  rw [← eW2] at a2 t2 b1
  rw [← eg2] at b1
  replace eW1 := Lib.hid eW1
  replace eW2 := Lib.hid eW2
  replace eg1 := Lib.hid eg1
  replace eg2 := Lib.hid eg2
  replace a2 := Lib.hid a2
  replace b1 := Lib.hid b1
  replace t2 := Lib.hid t2
  clear a1 t1
  go_enter Try.func24, Try.ntmps24
  go_upto_region 0 with fail
  refine wp_region_list ?_
  refine l_value rfl (run_box49 (C := [.int .i64 mk, .int .i64 mu, .int .i64 mq, .string mx, .string mg, .slice ps ns cs, .slice pi ni ci]) rfl rfl rfl) ?_
  simp only [Act.put, List.setIfInBounds_toArray, List.set_cons_zero, List.set_cons_succ]
  rw [← eW1.out, ← eg1.out]
  refine l_value rfl (run_box49 (C := [.int .i64 mk, .int .i64 mu, .int .i64 mq, .string mx, .string mg, .slice ps2 ns cs2, .slice pi2 ni ci2]) rfl rfl rfl) ?_
  simp only [Act.put, List.setIfInBounds_toArray, List.set_cons_zero, List.set_cons_succ]
  rw [← eW2.out, ← eg2.out]
  refine l_value rfl (run_asgn (v := .bool false) rfl rfl) ?_
  simp only [Act.put, List.setIfInBounds_toArray, List.set_cons_zero, List.set_cons_succ]
  refine wpList_nil ?_
  go_upto_region 1 with fail
  refine wp_region_list ?_
  refine l_value rfl (run_f49 0 rfl rfl (by decide)) ?_
  simp only [Act.put, List.setIfInBounds_toArray, List.set_cons_zero, List.set_cons_succ]
  refine l_value rfl (run_ld3 rfl rfl (cell_at a2.out 0)) ?_
  simp only [Act.put, List.setIfInBounds_toArray, List.set_cons_zero, List.set_cons_succ]
  refine l_value rfl (run_f49 0 rfl rfl (by decide)) ?_
  simp only [Act.put, List.setIfInBounds_toArray, List.set_cons_zero, List.set_cons_succ]
  refine l_value rfl (run_ld3 rfl rfl (cell_at b1.out 0)) ?_
  simp only [Act.put, List.setIfInBounds_toArray, List.set_cons_zero, List.set_cons_succ]
  refine l_value rfl (run_eq3 (b := true) (m := mk) (n := mk) (by simp) rfl rfl rfl) ?_
  simp only [Act.put, List.setIfInBounds_toArray, List.set_cons_zero, List.set_cons_succ]
  refine l_value rfl (run_move (v := .bool true) rfl rfl) ?_
  simp only [Act.put, List.setIfInBounds_toArray, List.set_cons_zero, List.set_cons_succ]
  refine BigFrame.wpList_want (by kernel_rfl) (fun _ hK => wp_value (run_f49 1 rfl rfl (by decide)) (hK _ _ ?_))
  clear hK
  simp only [Act.put, List.setIfInBounds_toArray, List.set_cons_zero, List.set_cons_succ]
  refine BigFrame.wpList_want (by kernel_rfl) (fun _ hK => wp_value (run_ld3 rfl rfl (cell_at a2.out 1)) (hK _ _ ?_))
  clear hK
  simp only [Act.put, List.setIfInBounds_toArray, List.set_cons_zero, List.set_cons_succ]
  refine BigFrame.wpList_want (by kernel_rfl) (fun _ hK => wp_value (run_f49 1 rfl rfl (by decide)) (hK _ _ ?_))
  clear hK
  simp only [Act.put, List.setIfInBounds_toArray, List.set_cons_zero, List.set_cons_succ]
  refine BigFrame.wpList_want (by kernel_rfl) (fun _ hK => wp_value (run_ld3 rfl rfl (cell_at b1.out 1)) (hK _ _ ?_))
  clear hK
  simp only [Act.put, List.setIfInBounds_toArray, List.set_cons_zero, List.set_cons_succ]
  refine BigFrame.wpList_want (by kernel_rfl) (fun _ hK => wp_value (run_eq3 (b := true) (m := mu) (n := mu) (by simp) rfl rfl rfl) (hK _ _ ?_))
  clear hK
  simp only [Act.put, List.setIfInBounds_toArray, List.set_cons_zero, List.set_cons_succ]
  refine l_value rfl (run_pickT (v := .bool true) rfl rfl rfl) ?_
  simp only [Act.put, List.setIfInBounds_toArray, List.set_cons_zero, List.set_cons_succ]
  refine l_value rfl (run_move (v := .bool true) rfl rfl) ?_
  simp only [Act.put, List.setIfInBounds_toArray, List.set_cons_zero, List.set_cons_succ]
  refine BigFrame.wpList_want (by kernel_rfl) (fun _ hK => wp_value (run_f49 2 rfl rfl (by decide)) (hK _ _ ?_))
  clear hK
  simp only [Act.put, List.setIfInBounds_toArray, List.set_cons_zero, List.set_cons_succ]
  refine BigFrame.wpList_want (by kernel_rfl) (fun _ hK => wp_value (run_ld3 rfl rfl (cell_at a2.out 2)) (hK _ _ ?_))
  clear hK
  simp only [Act.put, List.setIfInBounds_toArray, List.set_cons_zero, List.set_cons_succ]
  refine BigFrame.wpList_want (by kernel_rfl) (fun _ hK => wp_value (run_f49 2 rfl rfl (by decide)) (hK _ _ ?_))
  clear hK
  simp only [Act.put, List.setIfInBounds_toArray, List.set_cons_zero, List.set_cons_succ]
  refine BigFrame.wpList_want (by kernel_rfl) (fun _ hK => wp_value (run_ld3 rfl rfl (cell_at b1.out 2)) (hK _ _ ?_))
  clear hK
  simp only [Act.put, List.setIfInBounds_toArray, List.set_cons_zero, List.set_cons_succ]
  refine BigFrame.wpList_want (by kernel_rfl) (fun _ hK => wp_value (run_eq3 (b := true) (m := mq) (n := mq) (by simp) rfl rfl rfl) (hK _ _ ?_))
  clear hK
  simp only [Act.put, List.setIfInBounds_toArray, List.set_cons_zero, List.set_cons_succ]
  refine l_value rfl (run_pickT (v := .bool true) rfl rfl rfl) ?_
  simp only [Act.put, List.setIfInBounds_toArray, List.set_cons_zero, List.set_cons_succ]
  refine l_value rfl (run_move (v := .bool true) rfl rfl) ?_
  simp only [Act.put, List.setIfInBounds_toArray, List.set_cons_zero, List.set_cons_succ]
  refine BigFrame.wpList_want (by kernel_rfl) (fun _ hK => wp_value (run_f49 3 rfl rfl (by decide)) (hK _ _ ?_))
  clear hK
  simp only [Act.put, List.setIfInBounds_toArray, List.set_cons_zero, List.set_cons_succ]
  refine BigFrame.wpList_want (by kernel_rfl) (fun _ hK => wp_value (run_ld9 rfl rfl (cell_at a2.out 3)) (hK _ _ ?_))
  clear hK
  simp only [Act.put, List.setIfInBounds_toArray, List.set_cons_zero, List.set_cons_succ]
  refine BigFrame.wpList_want (by kernel_rfl) (fun _ hK => wp_value (run_f49 3 rfl rfl (by decide)) (hK _ _ ?_))
  clear hK
  simp only [Act.put, List.setIfInBounds_toArray, List.set_cons_zero, List.set_cons_succ]
  refine BigFrame.wpList_want (by kernel_rfl) (fun _ hK => wp_value (run_ld9 rfl rfl (cell_at b1.out 3)) (hK _ _ ?_))
  clear hK
  simp only [Act.put, List.setIfInBounds_toArray, List.set_cons_zero, List.set_cons_succ]
  refine BigFrame.wpList_want (by kernel_rfl) (fun _ hK => wp_value (run_eqs (b := true) (s := mx) (t := mx) (by simp) rfl rfl rfl) (hK _ _ ?_))
  clear hK
  simp only [Act.put, List.setIfInBounds_toArray, List.set_cons_zero, List.set_cons_succ]
  refine l_value rfl (run_pickT (v := .bool true) rfl rfl rfl) ?_
  simp only [Act.put, List.setIfInBounds_toArray, List.set_cons_zero, List.set_cons_succ]
  refine l_value rfl (run_move (v := .bool true) rfl rfl) ?_
  simp only [Act.put, List.setIfInBounds_toArray, List.set_cons_zero, List.set_cons_succ]
  refine BigFrame.wpList_want (by kernel_rfl) (fun _ hK => wp_value (run_f49 4 rfl rfl (by decide)) (hK _ _ ?_))
  clear hK
  simp only [Act.put, List.setIfInBounds_toArray, List.set_cons_zero, List.set_cons_succ]
  refine BigFrame.wpList_want (by kernel_rfl) (fun _ hK => wp_value (run_ld9 rfl rfl (cell_at a2.out 4)) (hK _ _ ?_))
  clear hK
  simp only [Act.put, List.setIfInBounds_toArray, List.set_cons_zero, List.set_cons_succ]
  refine BigFrame.wpList_want (by kernel_rfl) (fun _ hK => wp_value (run_f49 4 rfl rfl (by decide)) (hK _ _ ?_))
  clear hK
  simp only [Act.put, List.setIfInBounds_toArray, List.set_cons_zero, List.set_cons_succ]
  refine BigFrame.wpList_want (by kernel_rfl) (fun _ hK => wp_value (run_ld9 rfl rfl (cell_at b1.out 4)) (hK _ _ ?_))
  clear hK
  simp only [Act.put, List.setIfInBounds_toArray, List.set_cons_zero, List.set_cons_succ]
  refine BigFrame.wpList_want (by kernel_rfl) (fun _ hK => wp_value (run_eqs (b := true) (s := mg) (t := mg) (by simp) rfl rfl rfl) (hK _ _ ?_))
  clear hK
  simp only [Act.put, List.setIfInBounds_toArray, List.set_cons_zero, List.set_cons_succ]
  refine l_value rfl (run_pickT (v := .bool true) rfl rfl rfl) ?_
  simp only [Act.put, List.setIfInBounds_toArray, List.set_cons_zero, List.set_cons_succ]
  refine l_value rfl (run_move (v := .bool true) rfl rfl) ?_
  simp only [Act.put, List.setIfInBounds_toArray, List.set_cons_zero, List.set_cons_succ]
  refine BigFrame.wpList_want (by kernel_rfl) (fun _ hK => wp_value (run_f49 5 rfl rfl (by decide)) (hK _ _ ?_))
  clear hK
  simp only [Act.put, List.setIfInBounds_toArray, List.set_cons_zero, List.set_cons_succ]
  refine BigFrame.wpList_want (by kernel_rfl) (fun _ hK => wp_value (run_ld47 rfl rfl (cell_at a2.out 5)) (hK _ _ ?_))
  clear hK
  simp only [Act.put, List.setIfInBounds_toArray, List.set_cons_zero, List.set_cons_succ]
  refine BigFrame.wpList_want (by kernel_rfl) (fun _ hK => wp_value (run_f49 5 rfl rfl (by decide)) (hK _ _ ?_))
  clear hK
  simp only [Act.put, List.setIfInBounds_toArray, List.set_cons_zero, List.set_cons_succ]
  refine BigFrame.wpList_want (by kernel_rfl) (fun _ hK => wp_value (run_ld47 rfl rfl (cell_at b1.out 5)) (hK _ _ ?_))
  clear hK
  simp only [Act.put, List.setIfInBounds_toArray, List.set_cons_zero, List.set_cons_succ]
  refine BigFrame.wpList_want (by kernel_rfl) (fun K hK => wp_callf (args := #[.slice ps ns cs, .slice ps2 ns cs2]) (v := .bool true) cf39 rfl _ rfl #[] rfl rfl (hSS.out _ t2.out) (fun W3 t3 => hK _ _ ?_))
  clear hK K
  simp only [Act.put, List.setIfInBounds_toArray, List.set_cons_zero, List.set_cons_succ]
  refine l_value rfl (run_pickT (v := .bool true) rfl rfl rfl) ?_
  simp only [Act.put, List.setIfInBounds_toArray, List.set_cons_zero, List.set_cons_succ]
  refine l_value rfl (run_move (v := .bool true) rfl rfl) ?_
  simp only [Act.put, List.setIfInBounds_toArray, List.set_cons_zero, List.set_cons_succ]
  have a3 := t3.heap a2.out (fun q => q)
  have b3 := t3.heap b1.out (fun q => q)
  have t4 := t2.out.trans' t3
  refine BigFrame.wpList_want (by kernel_rfl) (fun _ hK => wp_value (run_f49 6 rfl rfl (by decide)) (hK _ _ ?_))
  clear hK
  simp only [Act.put, List.setIfInBounds_toArray, List.set_cons_zero, List.set_cons_succ]
  refine BigFrame.wpList_want (by kernel_rfl) (fun _ hK => wp_value (run_ld22 rfl rfl (cell_at a3 6)) (hK _ _ ?_))
  clear hK
  simp only [Act.put, List.setIfInBounds_toArray, List.set_cons_zero, List.set_cons_succ]
  refine BigFrame.wpList_want (by kernel_rfl) (fun _ hK => wp_value (run_f49 6 rfl rfl (by decide)) (hK _ _ ?_))
  clear hK
  simp only [Act.put, List.setIfInBounds_toArray, List.set_cons_zero, List.set_cons_succ]
  refine BigFrame.wpList_want (by kernel_rfl) (fun _ hK => wp_value (run_ld22 rfl rfl (cell_at b3 6)) (hK _ _ ?_))
  clear hK
  simp only [Act.put, List.setIfInBounds_toArray, List.set_cons_zero, List.set_cons_succ]
  refine BigFrame.wpList_want (by kernel_rfl) (fun K hK => wp_callf (args := #[.slice pi ni ci, .slice pi2 ni ci2]) (v := .bool true) cf40 rfl _ rfl #[] rfl rfl (hTT.out _ t4) (fun W5 t5 => hK _ _ ?_))
  clear hK K
  simp only [Act.put, List.setIfInBounds_toArray, List.set_cons_zero, List.set_cons_succ]
  refine l_value rfl (run_pickT (v := .bool true) rfl rfl rfl) ?_
  simp only [Act.put, List.setIfInBounds_toArray, List.set_cons_zero, List.set_cons_succ]
  refine l_value rfl (run_asgn (v := .bool true) rfl rfl) ?_
  simp only [Act.put, List.setIfInBounds_toArray, List.set_cons_zero, List.set_cons_succ]
  refine wpList_nil ?_
  have t6 := t4.trans' t5
  replace t6 := Lib.hid t6
  clear t5 t4 a3 b3 t3 a2 b1 t2
  go_wp2
  go_ret
  exact ⟨rfl, t6.out⟩

end Go.Proofs.Ytoegkcjclgmnbaa
