/-
  Layer 11 (mail): one slot of Encode. Printed by mkmf.py.
-/
import Derived.Test.YtoegkcjclgmnbaaMe
namespace Go.Proofs.Ytoegkcjclgmnbaa
open Go.RowKit
set_option linter.unusedVariables false
set_option linter.unusedSimpArgs false

/-- The region numbered n. -/
def regAt (n : Nat) : Code → Option Code
  | .region k ops d => if k == n then some (.region k ops d) else none
  | .seq a b => match regAt n a with
    | some c => some c
    | none => regAt n b
  | .block _ c => regAt n c
  | .scope c => regAt n c
  | .loop c => regAt n c
  | .cond _ a b => match regAt n a with
    | some c => some c
    | none => regAt n b
  | _ => none
noncomputable def reg22 (n : Nat) : Code := (Try.f22.body.bind (regAt n)).getD .skip

theorem cf35 (args : Array Value) (w : World) : (callFunc 35 args).run Try.prog w = .ok (.enter 35 args) w := by kernel_rfl
theorem cf36 (args : Array Value) (w : World) : (callFunc 36 args).run Try.prog w = .ok (.enter 36 args) w := by kernel_rfl
theorem cf37 (args : Array Value) (w : World) : (callFunc 37 args).run Try.prog w = .ok (.enter 37 args) w := by kernel_rfl
theorem run_len9 {a : Act} {w : World} {op : Oper} {x : Operand} {s : ByteArray} (ho : op.op = .call { callee := .builtin .len, args := #[x], argTypes := #[9] }) (hx : a.eval x = .string s) : (execOp a.eval op).run Try.prog w = .ok (.value (.int .i64 (s.size : Int))) w := by
  have h : (Builtin.len_ #[9] op.type #[.string s]).run Try.prog w = .ok (.int .i64 (s.size : Int)) w := by go_simp
  unfold execOp
  simp only [ho, resolve, invoke, builtin, Sem.run_bind, Sem.run_pure, Result.andThen_ok, List.map_toArray, List.map_cons, List.map_nil, hx, h]
theorem run_bs224 {a : Act} {w : World} {op : Oper} {x0 x1 x2 x3 : Operand} {b0 b1 b2 b3 : ByteArray} (ho : op.op = .buildSlice 22 4 #[(0, x0), (1, x1), (2, x2), (3, x3)]) (h0 : a.eval x0 = .string b0) (h1 : a.eval x1 = .string b1) (h2 : a.eval x2 = .string b2) (h3 : a.eval x3 = .string b3) :
    (execOp a.eval op).run Try.prog w = .ok (.value (.slice (some ⟨w.heap.size, 0, none⟩) 4 4)) (w.alloc (.cells ([b0, b1, b2, b3].map Value.string).toArray 9)) := by
  have h : (Instr.buildSlice 22 4 #[(0, .string b0), (1, .string b1), (2, .string b2), (3, .string b3)]).run Try.prog w = .ok (.slice (some ⟨w.heap.size, 0, none⟩) 4 4) (w.alloc (.cells ([b0, b1, b2, b3].map Value.string).toArray 9)) := by kernel_rfl
  unfold execOp
  simp only [ho, List.map_toArray, List.map_cons, List.map_nil, h0, h1, h2, h3, Sem.run_bind, h, Result.andThen_ok, Sem.run_pure]

set_option maxRecDepth 1000000 in
set_option maxHeartbeats 6400000 in
theorem slot_step (W : World) (g9 : Nat) (s : ByteArray) (x : ByteArray × ByteArray) (s2 P1 B P2 : ByteArray) (hs2 : s2 = ⟨([s, P1, B, P2].flatMap tx).toArray⟩)
    (hB : B = ⟨[bt x.2.size].toArray⟩) (c0 : W.cell? ⟨g9, 0, none⟩ = some (.string x.1)) (c1 : W.cell? ⟨g9, 1, none⟩ = some (.string x.2)) (hlen : ([s, P1, B, P2].flatMap tx).length ≤ 140737488355328)
    (hP1 : ∀ w, Calls Try.prog 36 #[.string x.1, .int .i64 16] w fun r w' => r = .returned (.string P1) ∧ Touch Nothing w w') (hP2 : ∀ w, Calls Try.prog 36 #[.string x.2, .int .i64 222] w fun r w' => r = .returned (.string P2) ∧ Touch Nothing w w')
    {z0 z1 z2 z3 z4 z5 z6 z8 z10 z11 z12 z13 z14 z15 z16 z17 z18 z19 z20 z21 z22 z23 z24 z25 z26 z27 z28 z29 z30 z31 z32 z33 z34 z35 z36 z37 z38 z39 z40 z41 z42 z43 z44 z45 z46 z47 z48 z49 z50 z51 z52 z53 z54 z55 z56 z57 z58 z59 z60 z61 z62 z63 z64 z65 z66 z67 z68 z69 z70 z71 z72 z73 z74 z75 z76 z77 z78 z79 z80 z81 z82 z83 z84 z85 z86 : Value} {Q : Exit → Act → World → Prop} (hP : ∀ c (a : Act) (w : World) d v, Q (.panic c) (a.put d v) w → Q (.panic c) a w)
    (hQ : ∀ (W' : World) (y61 y62 y63 y64 y65 y66 y67 y68 y69 y70 y71 y72 y73 y74 y75 : Value), Touch Nothing W W' → Q .normal ⟨List.toArray (z0 :: z1 :: z2 :: z3 :: z4 :: z5 :: z6 :: .string s2 :: z8 :: .pointer (some ⟨g9, 0, none⟩) :: z10 :: z11 :: z12 :: z13 :: z14 :: z15 :: z16 :: z17 :: z18 :: z19 :: z20 :: z21 :: z22 :: z23 :: z24 :: z25 :: z26 :: z27 :: z28 :: z29 :: z30 :: z31 :: z32 :: z33 :: z34 :: z35 :: z36 :: z37 :: z38 :: z39 :: z40 :: z41 :: z42 :: z43 :: z44 :: z45 :: z46 :: z47 :: z48 :: z49 :: z50 :: z51 :: z52 :: z53 :: z54 :: z55 :: z56 :: z57 :: z58 :: z59 :: z60 :: y61 :: y62 :: y63 :: y64 :: y65 :: y66 :: y67 :: y68 :: y69 :: y70 :: y71 :: y72 :: y73 :: y74 :: y75 :: z76 :: z77 :: z78 :: z79 :: z80 :: z81 :: z82 :: z83 :: z84 :: z85 :: z86 :: []), []⟩ W') :
    Code.wp Try.prog (reg22 12) Q ⟨List.toArray (z0 :: z1 :: z2 :: z3 :: z4 :: z5 :: z6 :: .string s :: z8 :: .pointer (some ⟨g9, 0, none⟩) :: z10 :: z11 :: z12 :: z13 :: z14 :: z15 :: z16 :: z17 :: z18 :: z19 :: z20 :: z21 :: z22 :: z23 :: z24 :: z25 :: z26 :: z27 :: z28 :: z29 :: z30 :: z31 :: z32 :: z33 :: z34 :: z35 :: z36 :: z37 :: z38 :: z39 :: z40 :: z41 :: z42 :: z43 :: z44 :: z45 :: z46 :: z47 :: z48 :: z49 :: z50 :: z51 :: z52 :: z53 :: z54 :: z55 :: z56 :: z57 :: z58 :: z59 :: z60 :: z61 :: z62 :: z63 :: z64 :: z65 :: z66 :: z67 :: z68 :: z69 :: z70 :: z71 :: z72 :: z73 :: z74 :: z75 :: z76 :: z77 :: z78 :: z79 :: z80 :: z81 :: z82 :: z83 :: z84 :: z85 :: z86 :: []), []⟩ W := by
  conv => arg 2; whnf
  have hJ := fun w => join_new w [s, P1, B, P2] 4 rfl hlen (by decide)
  rw [← hs2] at hJ
  replace hQ := Lib.hid hQ
  replace hJ := Lib.hid hJ
  refine wp_region_held_drew (S := fun w' => Touch Nothing W w') (by kernel_rfl) ((Touch.refl Nothing W).drew) (fun hS0 => ?_)
  refine d_value (i := 0) rfl (by kernel_rfl) (by kernel_rfl) (by kernel_rfl) rfl (fun _ _ _ h => hP _ _ _ _ _ h) (fun w9 hS => run_move (v := .string s) rfl rfl) hS0 ?_
  simp only [Act.put, List.setIfInBounds_toArray, List.set_cons_zero, List.set_cons_succ]
  refine d_value (i := 1) rfl (by kernel_rfl) (by kernel_rfl) (by kernel_rfl) rfl (fun _ _ _ h => hP _ _ _ _ _ h) (fun w9 hS => run_f74 0 rfl rfl (by decide)) hS0 ?_
  simp only [Act.put, List.setIfInBounds_toArray, List.set_cons_zero, List.set_cons_succ]
  refine d_value (i := 2) rfl (by kernel_rfl) (by kernel_rfl) (by kernel_rfl) rfl (fun _ _ _ h => hP _ _ _ _ _ h) (fun w9 hS => run_ld9 rfl rfl (hS.cell c0 (fun q => q))) hS0 ?_
  simp only [Act.put, List.setIfInBounds_toArray, List.set_cons_zero, List.set_cons_succ]
  refine d_value (i := 4) rfl (by kernel_rfl) (by kernel_rfl) (by kernel_rfl) rfl (fun _ _ _ h => hP _ _ _ _ _ h) (fun w9 hS => run_f74 1 rfl rfl (by decide)) hS0 ?_
  simp only [Act.put, List.setIfInBounds_toArray, List.set_cons_zero, List.set_cons_succ]
  refine d_value (i := 5) rfl (by kernel_rfl) (by kernel_rfl) (by kernel_rfl) rfl (fun _ _ _ h => hP _ _ _ _ _ h) (fun w9 hS => run_ld9 rfl rfl (hS.cell c1 (fun q => q))) hS0 ?_
  simp only [Act.put, List.setIfInBounds_toArray, List.set_cons_zero, List.set_cons_succ]
  refine d_value (i := 6) rfl (by kernel_rfl) (by kernel_rfl) (by kernel_rfl) rfl (fun _ _ _ h => hP _ _ _ _ _ h) (fun w9 hS => run_len9 (s := x.2) rfl rfl) hS0 ?_
  simp only [Act.put, List.setIfInBounds_toArray, List.set_cons_zero, List.set_cons_succ]
  refine d_value (i := 7) rfl (by kernel_rfl) (by kernel_rfl) (by kernel_rfl) rfl (fun _ _ _ h => hP _ _ _ _ _ h) (fun w9 hS => run_cv35 (n := (x.2.size : Int)) rfl rfl) hS0 ?_
  simp only [Act.put, List.setIfInBounds_toArray, List.set_cons_zero, List.set_cons_succ]
  refine d_value (i := 10) rfl (by kernel_rfl) (by kernel_rfl) (by kernel_rfl) rfl (fun _ _ _ h => hP _ _ _ _ _ h) (fun w9 hS => run_f74 1 rfl rfl (by decide)) hS0 ?_
  simp only [Act.put, List.setIfInBounds_toArray, List.set_cons_zero, List.set_cons_succ]
  refine d_value (i := 11) rfl (by kernel_rfl) (by kernel_rfl) (by kernel_rfl) rfl (fun _ _ _ h => hP _ _ _ _ _ h) (fun w9 hS => run_ld9 rfl rfl (hS.cell c1 (fun q => q))) hS0 ?_
  simp only [Act.put, List.setIfInBounds_toArray, List.set_cons_zero, List.set_cons_succ]
  refine d_two (i := 3) (m := 8) (by kernel_rfl) rfl rfl rfl rfl (fun K hK => wp_callf cf36 rfl _ rfl #[] rfl rfl (hP1 _) (fun wa1 ta1 => hK _ _ (hS0.trans' ta1) ?_)) (fun K hK => wp_value (run_bs551 (b := bt x.2.size) rfl rfl) (hK _ _ (hS0.alloc _) ?_))
  · clear hK K
    simp only [Act.put, List.setIfInBounds_toArray, List.set_cons_zero, List.set_cons_succ]
    have hS2 := hS0.trans' ta1
    refine d_two (i := 8) (m := 12) (by kernel_rfl) rfl rfl rfl rfl (fun K hK => wp_value (run_bs551 (b := bt x.2.size) rfl rfl) (hK _ _ (hS2.alloc _) ?_)) (fun K hK => wp_callf cf36 rfl _ rfl #[] rfl rfl (hP2 _) (fun wb3 tb3 => hK _ _ (hS2.trans' tb3) ?_))
    · clear hK K
      simp only [Act.put, List.setIfInBounds_toArray, List.set_cons_zero, List.set_cons_succ]
      have hg4 := heap_alloc_new wa1 (.cells ([bt x.2.size].map byteV).toArray 5)
      have hS4 := hS2.alloc (.cells ([bt x.2.size].map byteV).toArray 5)
      obtain ⟨w4, e4⟩ : ∃ v, v = wa1.alloc (.cells ([bt x.2.size].map byteV).toArray 5) := ⟨_, rfl⟩
      rw [← e4] at hg4 hS4 ⊢
      clear e4
      refine d_two (i := 9) (m := 12) (by kernel_rfl) rfl rfl rfl rfl (fun K hK => wp_value (run_cv559 (n := 1) (bs := [bt x.2.size]) rfl rfl rfl hg4) (hK _ _ hS4 ?_)) (fun K hK => wp_callf cf36 rfl _ rfl #[] rfl rfl (hP2 _) (fun wb5 tb5 => hK _ _ (hS4.trans' tb5) ?_))
      · clear hK K
        simp only [Act.put, List.setIfInBounds_toArray, List.set_cons_zero, List.set_cons_succ]
        refine d_step (i := 12) (by kernel_rfl) rfl rfl (fun K hK => wp_callf cf36 rfl _ rfl #[] rfl rfl (hP2 _) (fun wc7 tc7 => hK _ _ (hS4.trans' tc7) ?_))
        clear hK K
        simp only [Act.put, List.setIfInBounds_toArray, List.set_cons_zero, List.set_cons_succ]
        have hS8 := hS4.trans' tc7
        have hg8 := tc7.heap hg4 (fun q => q)
        refine d_new (i := 13) (by kernel_rfl) rfl rfl (run_bs224 (b0 := s) (b1 := P1) (b2 := B) (b3 := P2) rfl rfl rfl (by rw [hB]; rfl) rfl) (hS8.alloc _) ?_
        simp only [Act.put, List.setIfInBounds_toArray, List.set_cons_zero, List.set_cons_succ]
        refine d_call (args := #[.slice (some ⟨wc7.heap.size, 0, none⟩) 4 4]) (i := 14) (by kernel_rfl) rfl rfl cf35 rfl _ rfl #[] rfl rfl (hJ.out wc7) (fun _ t => hS8.trans' t) (fun wz tz => ?_)
        simp only [Act.put, List.setIfInBounds_toArray, List.set_cons_zero, List.set_cons_succ]
        have hSz := hS8.trans' tz
        refine d_value (i := 15) rfl (by kernel_rfl) (by kernel_rfl) (by kernel_rfl) rfl (fun _ _ _ h => hP _ _ _ _ _ h) (fun w9 hS => run_asgn (v := .string s2) rfl rfl) hSz ?_
        simp only [Act.put, List.setIfInBounds_toArray, List.set_cons_zero, List.set_cons_succ]
        refine wpAnyH_done (by kernel_rfl) ?_ _
        exact hQ.out _ _ _ _ _ _ _ _ _ _ _ _ _ _ _ _ hSz
      · clear hK K
        simp only [Act.put, List.setIfInBounds_toArray, List.set_cons_zero, List.set_cons_succ]
        have hS9 := hS4.trans' tb5
        have hg9 := tb5.heap hg4 (fun q => q)
        refine d_step (i := 9) (by kernel_rfl) rfl rfl (fun K hK => wp_value (run_cv559 (n := 1) (bs := [bt x.2.size]) rfl rfl rfl hg9) (hK _ _ hS9 ?_))
        clear hK K
        simp only [Act.put, List.setIfInBounds_toArray, List.set_cons_zero, List.set_cons_succ]
        refine d_new (i := 13) (by kernel_rfl) rfl rfl (run_bs224 (b0 := s) (b1 := P1) (b2 := B) (b3 := P2) rfl rfl rfl (by rw [hB]; rfl) rfl) (hS9.alloc _) ?_
        simp only [Act.put, List.setIfInBounds_toArray, List.set_cons_zero, List.set_cons_succ]
        refine d_call (args := #[.slice (some ⟨wb5.heap.size, 0, none⟩) 4 4]) (i := 14) (by kernel_rfl) rfl rfl cf35 rfl _ rfl #[] rfl rfl (hJ.out wb5) (fun _ t => hS9.trans' t) (fun wz tz => ?_)
        simp only [Act.put, List.setIfInBounds_toArray, List.set_cons_zero, List.set_cons_succ]
        have hSz := hS9.trans' tz
        refine d_value (i := 15) rfl (by kernel_rfl) (by kernel_rfl) (by kernel_rfl) rfl (fun _ _ _ h => hP _ _ _ _ _ h) (fun w9 hS => run_asgn (v := .string s2) rfl rfl) hSz ?_
        simp only [Act.put, List.setIfInBounds_toArray, List.set_cons_zero, List.set_cons_succ]
        refine wpAnyH_done (by kernel_rfl) ?_ _
        exact hQ.out _ _ _ _ _ _ _ _ _ _ _ _ _ _ _ _ hSz
    · clear hK K
      simp only [Act.put, List.setIfInBounds_toArray, List.set_cons_zero, List.set_cons_succ]
      have hS12 := hS2.trans' tb3
      refine d_step (i := 8) (by kernel_rfl) rfl rfl (fun K hK => wp_value (run_bs551 (b := bt x.2.size) rfl rfl) (hK _ _ (hS12.alloc _) ?_))
      clear hK K
      simp only [Act.put, List.setIfInBounds_toArray, List.set_cons_zero, List.set_cons_succ]
      have hg14 := heap_alloc_new wb3 (.cells ([bt x.2.size].map byteV).toArray 5)
      have hS14 := hS12.alloc (.cells ([bt x.2.size].map byteV).toArray 5)
      obtain ⟨w14, e14⟩ : ∃ v, v = wb3.alloc (.cells ([bt x.2.size].map byteV).toArray 5) := ⟨_, rfl⟩
      rw [← e14] at hg14 hS14 ⊢
      clear e14
      refine d_step (i := 9) (by kernel_rfl) rfl rfl (fun K hK => wp_value (run_cv559 (n := 1) (bs := [bt x.2.size]) rfl rfl rfl hg14) (hK _ _ hS14 ?_))
      clear hK K
      simp only [Act.put, List.setIfInBounds_toArray, List.set_cons_zero, List.set_cons_succ]
      refine d_new (i := 13) (by kernel_rfl) rfl rfl (run_bs224 (b0 := s) (b1 := P1) (b2 := B) (b3 := P2) rfl rfl rfl (by rw [hB]; rfl) rfl) (hS14.alloc _) ?_
      simp only [Act.put, List.setIfInBounds_toArray, List.set_cons_zero, List.set_cons_succ]
      refine d_call (args := #[.slice (some ⟨w14.heap.size, 0, none⟩) 4 4]) (i := 14) (by kernel_rfl) rfl rfl cf35 rfl _ rfl #[] rfl rfl (hJ.out w14) (fun _ t => hS14.trans' t) (fun wz tz => ?_)
      simp only [Act.put, List.setIfInBounds_toArray, List.set_cons_zero, List.set_cons_succ]
      have hSz := hS14.trans' tz
      refine d_value (i := 15) rfl (by kernel_rfl) (by kernel_rfl) (by kernel_rfl) rfl (fun _ _ _ h => hP _ _ _ _ _ h) (fun w9 hS => run_asgn (v := .string s2) rfl rfl) hSz ?_
      simp only [Act.put, List.setIfInBounds_toArray, List.set_cons_zero, List.set_cons_succ]
      refine wpAnyH_done (by kernel_rfl) ?_ _
      exact hQ.out _ _ _ _ _ _ _ _ _ _ _ _ _ _ _ _ hSz
  · clear hK K
    simp only [Act.put, List.setIfInBounds_toArray, List.set_cons_zero, List.set_cons_succ]
    have hg17 := heap_alloc_new W.drew (.cells ([bt x.2.size].map byteV).toArray 5)
    have hS17 := hS0.alloc (.cells ([bt x.2.size].map byteV).toArray 5)
    obtain ⟨w17, e17⟩ : ∃ v, v = W.drew.alloc (.cells ([bt x.2.size].map byteV).toArray 5) := ⟨_, rfl⟩
    rw [← e17] at hg17 hS17 ⊢
    clear e17
    refine d_two (i := 3) (m := 9) (by kernel_rfl) rfl rfl rfl rfl (fun K hK => wp_callf cf36 rfl _ rfl #[] rfl rfl (hP1 _) (fun wa18 ta18 => hK _ _ (hS17.trans' ta18) ?_)) (fun K hK => wp_value (run_cv559 (n := 1) (bs := [bt x.2.size]) rfl rfl rfl hg17) (hK _ _ hS17 ?_))
    · clear hK K
      simp only [Act.put, List.setIfInBounds_toArray, List.set_cons_zero, List.set_cons_succ]
      have hS19 := hS17.trans' ta18
      have hg19 := ta18.heap hg17 (fun q => q)
      refine d_two (i := 9) (m := 12) (by kernel_rfl) rfl rfl rfl rfl (fun K hK => wp_value (run_cv559 (n := 1) (bs := [bt x.2.size]) rfl rfl rfl hg19) (hK _ _ hS19 ?_)) (fun K hK => wp_callf cf36 rfl _ rfl #[] rfl rfl (hP2 _) (fun wb20 tb20 => hK _ _ (hS19.trans' tb20) ?_))
      · clear hK K
        simp only [Act.put, List.setIfInBounds_toArray, List.set_cons_zero, List.set_cons_succ]
        refine d_step (i := 12) (by kernel_rfl) rfl rfl (fun K hK => wp_callf cf36 rfl _ rfl #[] rfl rfl (hP2 _) (fun wc22 tc22 => hK _ _ (hS19.trans' tc22) ?_))
        clear hK K
        simp only [Act.put, List.setIfInBounds_toArray, List.set_cons_zero, List.set_cons_succ]
        have hS23 := hS19.trans' tc22
        have hg23 := tc22.heap hg19 (fun q => q)
        refine d_new (i := 13) (by kernel_rfl) rfl rfl (run_bs224 (b0 := s) (b1 := P1) (b2 := B) (b3 := P2) rfl rfl rfl (by rw [hB]; rfl) rfl) (hS23.alloc _) ?_
        simp only [Act.put, List.setIfInBounds_toArray, List.set_cons_zero, List.set_cons_succ]
        refine d_call (args := #[.slice (some ⟨wc22.heap.size, 0, none⟩) 4 4]) (i := 14) (by kernel_rfl) rfl rfl cf35 rfl _ rfl #[] rfl rfl (hJ.out wc22) (fun _ t => hS23.trans' t) (fun wz tz => ?_)
        simp only [Act.put, List.setIfInBounds_toArray, List.set_cons_zero, List.set_cons_succ]
        have hSz := hS23.trans' tz
        refine d_value (i := 15) rfl (by kernel_rfl) (by kernel_rfl) (by kernel_rfl) rfl (fun _ _ _ h => hP _ _ _ _ _ h) (fun w9 hS => run_asgn (v := .string s2) rfl rfl) hSz ?_
        simp only [Act.put, List.setIfInBounds_toArray, List.set_cons_zero, List.set_cons_succ]
        refine wpAnyH_done (by kernel_rfl) ?_ _
        exact hQ.out _ _ _ _ _ _ _ _ _ _ _ _ _ _ _ _ hSz
      · clear hK K
        simp only [Act.put, List.setIfInBounds_toArray, List.set_cons_zero, List.set_cons_succ]
        have hS24 := hS19.trans' tb20
        have hg24 := tb20.heap hg19 (fun q => q)
        refine d_step (i := 9) (by kernel_rfl) rfl rfl (fun K hK => wp_value (run_cv559 (n := 1) (bs := [bt x.2.size]) rfl rfl rfl hg24) (hK _ _ hS24 ?_))
        clear hK K
        simp only [Act.put, List.setIfInBounds_toArray, List.set_cons_zero, List.set_cons_succ]
        refine d_new (i := 13) (by kernel_rfl) rfl rfl (run_bs224 (b0 := s) (b1 := P1) (b2 := B) (b3 := P2) rfl rfl rfl (by rw [hB]; rfl) rfl) (hS24.alloc _) ?_
        simp only [Act.put, List.setIfInBounds_toArray, List.set_cons_zero, List.set_cons_succ]
        refine d_call (args := #[.slice (some ⟨wb20.heap.size, 0, none⟩) 4 4]) (i := 14) (by kernel_rfl) rfl rfl cf35 rfl _ rfl #[] rfl rfl (hJ.out wb20) (fun _ t => hS24.trans' t) (fun wz tz => ?_)
        simp only [Act.put, List.setIfInBounds_toArray, List.set_cons_zero, List.set_cons_succ]
        have hSz := hS24.trans' tz
        refine d_value (i := 15) rfl (by kernel_rfl) (by kernel_rfl) (by kernel_rfl) rfl (fun _ _ _ h => hP _ _ _ _ _ h) (fun w9 hS => run_asgn (v := .string s2) rfl rfl) hSz ?_
        simp only [Act.put, List.setIfInBounds_toArray, List.set_cons_zero, List.set_cons_succ]
        refine wpAnyH_done (by kernel_rfl) ?_ _
        exact hQ.out _ _ _ _ _ _ _ _ _ _ _ _ _ _ _ _ hSz
    · clear hK K
      simp only [Act.put, List.setIfInBounds_toArray, List.set_cons_zero, List.set_cons_succ]
      refine d_step (i := 3) (by kernel_rfl) rfl rfl (fun K hK => wp_callf cf36 rfl _ rfl #[] rfl rfl (hP1 _) (fun wc28 tc28 => hK _ _ (hS17.trans' tc28) ?_))
      clear hK K
      simp only [Act.put, List.setIfInBounds_toArray, List.set_cons_zero, List.set_cons_succ]
      have hS29 := hS17.trans' tc28
      have hg29 := tc28.heap hg17 (fun q => q)
      refine d_step (i := 12) (by kernel_rfl) rfl rfl (fun K hK => wp_callf cf36 rfl _ rfl #[] rfl rfl (hP2 _) (fun wc30 tc30 => hK _ _ (hS29.trans' tc30) ?_))
      clear hK K
      simp only [Act.put, List.setIfInBounds_toArray, List.set_cons_zero, List.set_cons_succ]
      have hS31 := hS29.trans' tc30
      have hg31 := tc30.heap hg29 (fun q => q)
      refine d_new (i := 13) (by kernel_rfl) rfl rfl (run_bs224 (b0 := s) (b1 := P1) (b2 := B) (b3 := P2) rfl rfl rfl (by rw [hB]; rfl) rfl) (hS31.alloc _) ?_
      simp only [Act.put, List.setIfInBounds_toArray, List.set_cons_zero, List.set_cons_succ]
      refine d_call (args := #[.slice (some ⟨wc30.heap.size, 0, none⟩) 4 4]) (i := 14) (by kernel_rfl) rfl rfl cf35 rfl _ rfl #[] rfl rfl (hJ.out wc30) (fun _ t => hS31.trans' t) (fun wz tz => ?_)
      simp only [Act.put, List.setIfInBounds_toArray, List.set_cons_zero, List.set_cons_succ]
      have hSz := hS31.trans' tz
      refine d_value (i := 15) rfl (by kernel_rfl) (by kernel_rfl) (by kernel_rfl) rfl (fun _ _ _ h => hP _ _ _ _ _ h) (fun w9 hS => run_asgn (v := .string s2) rfl rfl) hSz ?_
      simp only [Act.put, List.setIfInBounds_toArray, List.set_cons_zero, List.set_cons_succ]
      refine wpAnyH_done (by kernel_rfl) ?_ _
      exact hQ.out _ _ _ _ _ _ _ _ _ _ _ _ _ _ _ _ hSz

/-- join of texts that came in. -/
theorem join_sl (w : World) (p : Option Addr) (c : Nat) (xs : List ByteArray) (h : StrSl w p c xs) (hl : (xs.flatMap tx).length ≤ 140737488355328) (hn : xs.length ≤ 140737488355328) :
    Calls Try.prog 35 #[.slice p xs.length c] w fun r w' => r = .returned (.string ⟨(xs.flatMap tx).toArray⟩) ∧ Touch Nothing w w' := by
  cases xs with
  | nil =>
    have hJ := Lib.hid (Try.strings_Join_none p c ⟨#[]⟩ w)
    simp only [List.length_nil, List.flatMap_nil]
    go_enter Try.func35, Try.ntmps35
    go_wp2_with (first | (go_at_call 44; refine hJ.out.mono ?_; rintro r w2 ⟨rfl, rfl⟩))
    go_ret
    exact ⟨rfl, Touch.refl _ _⟩
  | cons x r =>
    obtain ⟨g, o, rfl, hc⟩ := h.2 0 (by simp)
    refine (join_any w g o c (x :: r) (fun j y hy => ?_) (World.block_lt_of_cell? w _ hc) h.1 hl hn).mono fun r w' q => ⟨q.1, Touch.ofBelow0 q.2⟩
    obtain ⟨hj, e⟩ := List.getElem?_eq_some_iff.1 hy
    obtain ⟨g', o', e1, h1⟩ := h.2 j hj
    cases e1
    rw [h1, e]

theorem run_bs222 {a : Act} {w : World} {op : Oper} {x0 x1 : Operand} {b0 b1 : ByteArray} (ho : op.op = .buildSlice 22 2 #[(0, x0), (1, x1)]) (h0 : a.eval x0 = .string b0) (h1 : a.eval x1 = .string b1) :
    (execOp a.eval op).run Try.prog w = .ok (.value (.slice (some ⟨w.heap.size, 0, none⟩) 2 2)) (w.alloc (.cells ([b0, b1].map Value.string).toArray 9)) := by
  have h : (Instr.buildSlice 22 2 #[(0, .string b0), (1, .string b1)]).run Try.prog w = .ok (.slice (some ⟨w.heap.size, 0, none⟩) 2 2) (w.alloc (.cells ([b0, b1].map Value.string).toArray 9)) := by kernel_rfl
  unfold execOp
  simp only [ho, List.map_toArray, List.map_cons, List.map_nil, h0, h1, Sem.run_bind, h, Result.andThen_ok, Sem.run_pure]

set_option maxRecDepth 1000000 in
set_option maxHeartbeats 6400000 in
theorem end_step (W : World) (g : Nat) (s I S2 E : ByteArray) (k : Int) (n : Nat) (vi : Value) (hS2 : S2 = ⟨([s, I].flatMap tx).toArray⟩)
    (c0 : W.cell? ⟨g, 0, none⟩ = some (.int .i64 k)) (c6 : W.cell? ⟨g, 6, none⟩ = some vi) (hlen : ([s, I].flatMap tx).length ≤ 140737488355328)
    (hI : ∀ w, Touch Nothing W w → Calls Try.prog 35 #[vi] w fun r w' => r = .returned (.string I) ∧ Touch Nothing w w')
    (hLg : ∀ w, Calls Try.prog 37 #[.int .i64 k] w fun r w' => r = .returned (.int .i64 (n : Int)) ∧ Touch Nothing w w')
    (hPd : ∀ w, Calls Try.prog 36 #[.string S2, .int .i64 (n : Int)] w fun r w' => r = .returned (.string E) ∧ Touch Nothing w w')
    {z0 z2 z3 z4 z5 z6 z8 z9 z10 z11 z12 z13 z14 z15 z16 z17 z18 z19 z20 z21 z22 z23 z24 z25 z26 z27 z28 z29 z30 z31 z32 z33 z34 z35 z36 z37 z38 z39 z40 z41 z42 z43 z44 z45 z46 z47 z48 z49 z50 z51 z52 z53 z54 z55 z56 z57 z58 z59 z60 z61 z62 z63 z64 z65 z66 z67 z68 z69 z70 z71 z72 z73 z74 z75 z76 z77 z78 z79 z80 z81 z82 z83 z84 z85 z86 : Value} {Q : Exit → Act → World → Prop} (hP : ∀ c (a : Act) (w : World) d v, Q (.panic c) (a.put d v) w → Q (.panic c) a w)
    (hQ : ∀ (W' : World) (y77 y78 y79 y80 y81 y82 y83 y84 y85 y86 : Value), Touch Nothing W W' → Q .normal ⟨List.toArray (z0 :: .pointer (some ⟨g, 0, none⟩) :: .string E :: .int .i64 0 :: z4 :: z5 :: z6 :: .string s :: z8 :: z9 :: z10 :: z11 :: z12 :: z13 :: z14 :: z15 :: z16 :: z17 :: z18 :: z19 :: z20 :: z21 :: z22 :: z23 :: z24 :: z25 :: z26 :: z27 :: z28 :: z29 :: z30 :: z31 :: z32 :: z33 :: z34 :: z35 :: z36 :: z37 :: z38 :: z39 :: z40 :: z41 :: z42 :: z43 :: z44 :: z45 :: z46 :: z47 :: z48 :: z49 :: z50 :: z51 :: z52 :: z53 :: z54 :: z55 :: z56 :: z57 :: z58 :: z59 :: z60 :: z61 :: z62 :: z63 :: z64 :: z65 :: z66 :: z67 :: z68 :: z69 :: z70 :: z71 :: z72 :: z73 :: z74 :: z75 :: z76 :: y77 :: y78 :: y79 :: y80 :: y81 :: y82 :: y83 :: y84 :: y85 :: y86 :: []), []⟩ W') :
    Code.wp Try.prog (reg22 14) Q ⟨List.toArray (z0 :: .pointer (some ⟨g, 0, none⟩) :: z2 :: z3 :: z4 :: z5 :: z6 :: .string s :: z8 :: z9 :: z10 :: z11 :: z12 :: z13 :: z14 :: z15 :: z16 :: z17 :: z18 :: z19 :: z20 :: z21 :: z22 :: z23 :: z24 :: z25 :: z26 :: z27 :: z28 :: z29 :: z30 :: z31 :: z32 :: z33 :: z34 :: z35 :: z36 :: z37 :: z38 :: z39 :: z40 :: z41 :: z42 :: z43 :: z44 :: z45 :: z46 :: z47 :: z48 :: z49 :: z50 :: z51 :: z52 :: z53 :: z54 :: z55 :: z56 :: z57 :: z58 :: z59 :: z60 :: z61 :: z62 :: z63 :: z64 :: z65 :: z66 :: z67 :: z68 :: z69 :: z70 :: z71 :: z72 :: z73 :: z74 :: z75 :: z76 :: z77 :: z78 :: z79 :: z80 :: z81 :: z82 :: z83 :: z84 :: z85 :: z86 :: []), []⟩ W := by
  conv => arg 2; whnf
  have hJ := fun w => join_new w [s, I] 2 rfl hlen (by decide)
  rw [← hS2] at hJ
  replace hQ := Lib.hid hQ
  replace hJ := Lib.hid hJ
  refine wp_region_held_drew (S := fun w' => Touch Nothing W w') (by kernel_rfl) ((Touch.refl Nothing W).drew) (fun hS0 => ?_)
  refine d_value (i := 0) rfl (by kernel_rfl) (by kernel_rfl) (by kernel_rfl) rfl (fun _ _ _ h => hP _ _ _ _ _ h) (fun w9 hS => run_move (v := .string s) rfl rfl) hS0 ?_
  simp only [Act.put, List.setIfInBounds_toArray, List.set_cons_zero, List.set_cons_succ]
  refine d_value (i := 1) rfl (by kernel_rfl) (by kernel_rfl) (by kernel_rfl) rfl (fun _ _ _ h => hP _ _ _ _ _ h) (fun w9 hS => run_f49 6 rfl rfl (by decide)) hS0 ?_
  simp only [Act.put, List.setIfInBounds_toArray, List.set_cons_zero, List.set_cons_succ]
  refine d_value (i := 2) rfl (by kernel_rfl) (by kernel_rfl) (by kernel_rfl) rfl (fun _ _ _ h => hP _ _ _ _ _ h) (fun w9 hS => run_ld22 rfl rfl (hS.cell c6 (fun q => q))) hS0 ?_
  simp only [Act.put, List.setIfInBounds_toArray, List.set_cons_zero, List.set_cons_succ]
  refine d_value (i := 6) rfl (by kernel_rfl) (by kernel_rfl) (by kernel_rfl) rfl (fun _ _ _ h => hP _ _ _ _ _ h) (fun w9 hS => run_f49 0 rfl rfl (by decide)) hS0 ?_
  simp only [Act.put, List.setIfInBounds_toArray, List.set_cons_zero, List.set_cons_succ]
  refine d_value (i := 7) rfl (by kernel_rfl) (by kernel_rfl) (by kernel_rfl) rfl (fun _ _ _ h => hP _ _ _ _ _ h) (fun w9 hS => run_ld3 rfl rfl (hS.cell c0 (fun q => q))) hS0 ?_
  simp only [Act.put, List.setIfInBounds_toArray, List.set_cons_zero, List.set_cons_succ]
  refine d_call (args := #[vi]) (i := 3) (by kernel_rfl) rfl rfl cf35 rfl _ rfl #[] rfl rfl (hI _ hS0) (fun _ t => hS0.trans' t) (fun w1 t1 => ?_)
  simp only [Act.put, List.setIfInBounds_toArray, List.set_cons_zero, List.set_cons_succ]
  have hT1 := hS0.trans' t1
  refine d_new (i := 4) (by kernel_rfl) rfl rfl (run_bs222 (b0 := s) (b1 := I) rfl rfl rfl) (hT1.alloc _) ?_
  simp only [Act.put, List.setIfInBounds_toArray, List.set_cons_zero, List.set_cons_succ]
  refine d_call (args := #[.slice (some ⟨w1.heap.size, 0, none⟩) 2 2]) (i := 5) (by kernel_rfl) rfl rfl cf35 rfl _ rfl #[] rfl rfl (hJ.out w1) (fun _ t => hT1.trans' t) (fun w2 t2 => ?_)
  simp only [Act.put, List.setIfInBounds_toArray, List.set_cons_zero, List.set_cons_succ]
  have hT2 := hT1.trans' t2
  refine d_call (args := #[.int .i64 k]) (i := 8) (by kernel_rfl) rfl rfl cf37 rfl _ rfl #[] rfl rfl (hLg w2) (fun _ t => hT2.trans' t) (fun w3 t3 => ?_)
  simp only [Act.put, List.setIfInBounds_toArray, List.set_cons_zero, List.set_cons_succ]
  have hT3 := hT2.trans' t3
  refine d_call (args := #[.string S2, .int .i64 (n : Int)]) (i := 9) (by kernel_rfl) rfl rfl cf36 rfl _ rfl #[] rfl rfl (hPd w3) (fun _ t => hT3.trans' t) (fun w4 t4 => ?_)
  simp only [Act.put, List.setIfInBounds_toArray, List.set_cons_zero, List.set_cons_succ]
  have hT4 := hT3.trans' t4
  refine d_value (i := 10) rfl (by kernel_rfl) (by kernel_rfl) (by kernel_rfl) rfl (fun _ _ _ h => hP _ _ _ _ _ h) (fun w9 hS => run_asgn (v := .string E) rfl rfl) hT4 ?_
  simp only [Act.put, List.setIfInBounds_toArray, List.set_cons_zero, List.set_cons_succ]
  refine d_value (i := 11) rfl (by kernel_rfl) (by kernel_rfl) (by kernel_rfl) rfl (fun _ _ _ h => hP _ _ _ _ _ h) (fun w9 hS => run_asgn (v := .int .i64 0) rfl rfl) hT4 ?_
  simp only [Act.put, List.setIfInBounds_toArray, List.set_cons_zero, List.set_cons_succ]
  refine wpAnyH_done (by kernel_rfl) ?_ _
  exact hQ.out _ _ _ _ _ _ _ _ _ _ _ hT4

end Go.Proofs.Ytoegkcjclgmnbaa
