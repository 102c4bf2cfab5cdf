/-
  TopFrames: the walk of the law. Printed by mkms.py.
-/
import Derived.Test.YtoegkcjclgmnbaaMr
import Derived.Deep.DeepCutAuto
namespace Go.Proofs.Ytoegkcjclgmnbaa
open Go.RowKit
set_option linter.unusedVariables false
set_option linter.unusedSimpArgs false

section
variable {a : Act} {w : World} {op : Oper} {K : Act → World → Prop} {Q : Exit → Act → World → Prop}
theorem run_not {x : Operand} {b : Bool} (ho : op.op = .unOp .not 4 x) (hx : a.eval x = .bool b) : (execOp a.eval op).run Try.prog w = .ok (.value (.bool (!b))) w := by
  unfold execOp
  simp only [ho, hx]
  go_simp
theorem run_lss3 {x y : Operand} {m n : Int} {b : Bool} (hb : decide (m < n) = b) (ho : op.op = .binOp .lss 3 x y 3) (hx : a.eval x = .int .i64 m) (hy : a.eval y = .int .i64 n) :
    (execOp a.eval op).run Try.prog w = .ok (.value (.bool b)) w := by
  subst hb
  unfold execOp
  simp only [ho, hx, hy]
  go_simp
theorem run_geq3 {x y : Operand} {m n : Int} {b : Bool} (hb : decide (n ≤ m) = b) (ho : op.op = .binOp .geq 3 x y 3) (hx : a.eval x = .int .i64 m) (hy : a.eval y = .int .i64 n) :
    (execOp a.eval op).run Try.prog w = .ok (.value (.bool b)) w := by
  subst hb
  unfold execOp
  simp only [ho, hx, hy]
  go_simp
theorem run_gtr3 {x y : Operand} {m n : Int} {b : Bool} (hb : decide (n < m) = b) (ho : op.op = .binOp .gtr 3 x y 3) (hx : a.eval x = .int .i64 m) (hy : a.eval y = .int .i64 n) :
    (execOp a.eval op).run Try.prog w = .ok (.value (.bool b)) w := by
  subst hb
  unfold execOp
  simp only [ho, hx, hy]
  go_simp
theorem run_len45 {x : Operand} {p : Option Addr} {n c : Nat} (ho : op.op = .call { callee := .builtin .len, args := #[x], argTypes := #[45] }) (hx : a.eval x = .slice p n c) : (execOp a.eval op).run Try.prog w = .ok (.value (.int .i64 (n : Int))) w := by
  have h : (Builtin.len_ #[45] op.type #[.slice p n c]).run Try.prog w = .ok (.int .i64 (n : Int)) w := by go_simp
  unfold execOp
  simp only [ho, resolve, invoke, builtin, Sem.run_bind, Sem.run_pure, Result.andThen_ok, List.map_toArray, List.map_cons, List.map_nil, hx, h]
theorem run_len29 {x : Operand} {p : Option Addr} {n c : Nat} (ho : op.op = .call { callee := .builtin .len, args := #[x], argTypes := #[29] }) (hx : a.eval x = .slice p n c) : (execOp a.eval op).run Try.prog w = .ok (.value (.int .i64 (n : Int))) w := by
  have h : (Builtin.len_ #[29] op.type #[.slice p n c]).run Try.prog w = .ok (.int .i64 (n : Int)) w := by go_simp
  unfold execOp
  simp only [ho, resolve, invoke, builtin, Sem.run_bind, Sem.run_pure, Result.andThen_ok, List.map_toArray, List.map_cons, List.map_nil, hx, h]
theorem run_pickN {c x y : Operand} {v : Value} (ho : op.op = .pick c x y) (hc : a.eval c = .bool false) (hy : a.eval y = v) :
    (execOp a.eval op).run Try.prog w = .ok (.value v) w := run_pickF ho hc hy
theorem wpList_out {ops : Array Oper} {rest : List Oper} (hw : Region.wanted op (yielded ops a.tmps) = false) (h : wpList Try.prog ops Q rest (a.put op.dst undef) w) : wpList Try.prog ops Q (op :: rest) a w :=
  wpList_step fun K hK => by rw [hw]; exact hK _ _ h
end

noncomputable def reg8 (n : Nat) : Code := (Try.f8.body.bind (regAt n)).getD .skip

set_option maxRecDepth 1000000 in
set_option maxHeartbeats 6400000 in
theorem head6 (wr : World) (i n c : Nat) (A : Option Addr)
    {z1 z2 z3 z4 z5 z6 z8 z9 z10 z11 z12 z13 z14 z15 z16 z17 z18 z19 z20 z21 z22 z23 z24 z25 z26 z27 z28 z29 z30 z31 z32 z33 z34 z35 z36 z37 z38 z39 z40 z41 z42 z43 z44 z45 z46 z47 z48 z49 z50 z51 z52 z53 z54 z55 z56 z57 z58 z59 z60 z61 z62 z63 z64 z65 z66 z67 z68 z69 z70 z71 z72 z73 z74 z75 z76 z77 z78 z79 z80 z81 z82 z83 z84 z85 z86 z87 z88 z89 z90 z91 z92 z93 z94 z95 z96 z97 z98 z99 z100 z101 z102 z103 z104 z105 z106 z107 z108 z109 z110 z111 z112 z113 z114 z115 z116 z117 z118 z119 z120 z121 z122 z123 z124 z125 z126 z127 z128 z129 z130 z131 z132 z133 z134 z135 z136 z137 z138 z139 z140 z141 z142 z143 z144 z145 z146 z147 : Value} {Q : Exit → Act → World → Prop}
    (hQ : ∀ (y22 y23 y24 y25 y26 y27 y28 : Value), Q .normal ⟨List.toArray (.slice A n c :: z1 :: z2 :: z3 :: z4 :: z5 :: z6 :: .int .i64 (i : Int) :: z8 :: z9 :: z10 :: z11 :: z12 :: z13 :: z14 :: z15 :: z16 :: z17 :: z18 :: z19 :: z20 :: z21 :: y22 :: y23 :: y24 :: y25 :: y26 :: y27 :: y28 :: .bool (decide (i < n ∧ i < 40)) :: z30 :: z31 :: z32 :: z33 :: z34 :: z35 :: z36 :: z37 :: z38 :: z39 :: z40 :: z41 :: z42 :: z43 :: z44 :: z45 :: z46 :: z47 :: z48 :: z49 :: z50 :: z51 :: z52 :: z53 :: z54 :: z55 :: z56 :: z57 :: z58 :: z59 :: z60 :: z61 :: z62 :: z63 :: z64 :: z65 :: z66 :: z67 :: z68 :: z69 :: z70 :: z71 :: z72 :: z73 :: z74 :: z75 :: z76 :: z77 :: z78 :: z79 :: z80 :: z81 :: z82 :: z83 :: z84 :: z85 :: z86 :: z87 :: z88 :: z89 :: z90 :: z91 :: z92 :: z93 :: z94 :: z95 :: z96 :: z97 :: z98 :: z99 :: z100 :: z101 :: z102 :: z103 :: z104 :: z105 :: z106 :: z107 :: z108 :: z109 :: z110 :: z111 :: z112 :: z113 :: z114 :: z115 :: z116 :: z117 :: z118 :: z119 :: z120 :: z121 :: z122 :: z123 :: z124 :: z125 :: z126 :: z127 :: z128 :: z129 :: z130 :: z131 :: z132 :: z133 :: z134 :: z135 :: z136 :: z137 :: z138 :: z139 :: z140 :: z141 :: z142 :: z143 :: z144 :: z145 :: z146 :: z147 :: []), []⟩ wr) :
    Code.wp Try.prog (reg8 6) Q ⟨List.toArray (.slice A n c :: z1 :: z2 :: z3 :: z4 :: z5 :: z6 :: .int .i64 (i : Int) :: z8 :: z9 :: z10 :: z11 :: z12 :: z13 :: z14 :: z15 :: z16 :: z17 :: z18 :: z19 :: z20 :: z21 :: z22 :: z23 :: z24 :: z25 :: z26 :: z27 :: z28 :: z29 :: z30 :: z31 :: z32 :: z33 :: z34 :: z35 :: z36 :: z37 :: z38 :: z39 :: z40 :: z41 :: z42 :: z43 :: z44 :: z45 :: z46 :: z47 :: z48 :: z49 :: z50 :: z51 :: z52 :: z53 :: z54 :: z55 :: z56 :: z57 :: z58 :: z59 :: z60 :: z61 :: z62 :: z63 :: z64 :: z65 :: z66 :: z67 :: z68 :: z69 :: z70 :: z71 :: z72 :: z73 :: z74 :: z75 :: z76 :: z77 :: z78 :: z79 :: z80 :: z81 :: z82 :: z83 :: z84 :: z85 :: z86 :: z87 :: z88 :: z89 :: z90 :: z91 :: z92 :: z93 :: z94 :: z95 :: z96 :: z97 :: z98 :: z99 :: z100 :: z101 :: z102 :: z103 :: z104 :: z105 :: z106 :: z107 :: z108 :: z109 :: z110 :: z111 :: z112 :: z113 :: z114 :: z115 :: z116 :: z117 :: z118 :: z119 :: z120 :: z121 :: z122 :: z123 :: z124 :: z125 :: z126 :: z127 :: z128 :: z129 :: z130 :: z131 :: z132 :: z133 :: z134 :: z135 :: z136 :: z137 :: z138 :: z139 :: z140 :: z141 :: z142 :: z143 :: z144 :: z145 :: z146 :: z147 :: []), []⟩ wr := by
  conv => arg 2; whnf
  replace hQ := Lib.hid hQ
  by_cases h1 : i < n
  · refine wp_region_list ?_
    refine l_value rfl (run_move (v := .int .i64 (i : Int)) rfl rfl) ?_
    simp only [Act.put, List.setIfInBounds_toArray, List.set_cons_zero, List.set_cons_succ]
    refine l_value rfl (run_move (v := .slice A n c) rfl rfl) ?_
    simp only [Act.put, List.setIfInBounds_toArray, List.set_cons_zero, List.set_cons_succ]
    refine l_value rfl (run_len45 rfl rfl) ?_
    simp only [Act.put, List.setIfInBounds_toArray, List.set_cons_zero, List.set_cons_succ]
    refine l_value rfl (run_lss3 (b := true) (decide_eq_true (by omega)) rfl rfl rfl) ?_
    simp only [Act.put, List.setIfInBounds_toArray, List.set_cons_zero, List.set_cons_succ]
    refine l_value rfl (run_move (v := .bool true) rfl rfl) ?_
    simp only [Act.put, List.setIfInBounds_toArray, List.set_cons_zero, List.set_cons_succ]
    refine BigFrame.wpList_want (by kernel_rfl) (fun _ hK => wp_value (run_move (v := .int .i64 (i : Int)) rfl rfl) (hK _ _ ?_))
    clear hK
    simp only [Act.put, List.setIfInBounds_toArray, List.set_cons_zero, List.set_cons_succ]
    refine BigFrame.wpList_want (by kernel_rfl) (fun _ hK => wp_value (run_lss3 (b := decide (i < 40)) (decide_eq_decide.2 (by omega)) rfl rfl rfl) (hK _ _ ?_))
    clear hK
    simp only [Act.put, List.setIfInBounds_toArray, List.set_cons_zero, List.set_cons_succ]
    refine l_value rfl (run_pickT (v := .bool (decide (i < 40))) rfl rfl rfl) ?_
    simp only [Act.put, List.setIfInBounds_toArray, List.set_cons_zero, List.set_cons_succ]
    refine wpList_nil ?_
    have e : decide (i < 40) = decide (i < n ∧ i < 40) := decide_eq_decide.2 (by omega)
    rw [e]
    exact hQ.out _ _ _ _ _ _ _
  · refine wp_region_list ?_
    refine l_value rfl (run_move (v := .int .i64 (i : Int)) rfl rfl) ?_
    simp only [Act.put, List.setIfInBounds_toArray, List.set_cons_zero, List.set_cons_succ]
    refine l_value rfl (run_move (v := .slice A n c) rfl rfl) ?_
    simp only [Act.put, List.setIfInBounds_toArray, List.set_cons_zero, List.set_cons_succ]
    refine l_value rfl (run_len45 rfl rfl) ?_
    simp only [Act.put, List.setIfInBounds_toArray, List.set_cons_zero, List.set_cons_succ]
    refine l_value rfl (run_lss3 (b := false) (decide_eq_false (by omega)) rfl rfl rfl) ?_
    simp only [Act.put, List.setIfInBounds_toArray, List.set_cons_zero, List.set_cons_succ]
    refine l_value rfl (run_move (v := .bool false) rfl rfl) ?_
    simp only [Act.put, List.setIfInBounds_toArray, List.set_cons_zero, List.set_cons_succ]
    refine wpList_out (by kernel_rfl) ?_
    simp only [Act.put, List.setIfInBounds_toArray, List.set_cons_zero, List.set_cons_succ]
    refine wpList_out (by kernel_rfl) ?_
    simp only [Act.put, List.setIfInBounds_toArray, List.set_cons_zero, List.set_cons_succ]
    refine l_value rfl (run_pickF (v := .bool false) rfl rfl rfl) ?_
    simp only [Act.put, List.setIfInBounds_toArray, List.set_cons_zero, List.set_cons_succ]
    refine wpList_nil ?_
    have e : false = decide (i < n ∧ i < 40) := (decide_eq_false (by omega)).symm
    rw [e]
    exact hQ.out _ _ _ _ _ _ _

set_option maxRecDepth 1000000 in
set_option maxHeartbeats 6400000 in
theorem head23 (wr : World) (i n c : Nat) (A : Option Addr)
    {z0 z2 z3 z4 z5 z6 z7 z8 z9 z10 z11 z12 z13 z15 z16 z17 z18 z19 z20 z21 z22 z23 z24 z25 z26 z27 z28 z29 z30 z31 z32 z33 z34 z35 z36 z37 z38 z39 z40 z41 z42 z43 z44 z45 z46 z47 z48 z49 z50 z51 z52 z53 z54 z55 z56 z57 z58 z59 z60 z61 z62 z63 z64 z65 z66 z67 z68 z69 z70 z71 z72 z73 z74 z75 z76 z77 z78 z79 z80 z81 z82 z83 z84 z85 z86 z87 z88 z89 z90 z91 z92 z93 z94 z95 z96 z97 z98 z99 z100 z101 z102 z103 z104 z105 z106 z107 z108 z109 z110 z111 z112 z113 z114 z115 z116 z117 z118 z119 z120 z121 z122 z123 z124 z125 z126 z127 z128 z129 z130 z131 z132 z133 z134 z135 z136 z137 z138 z139 z140 z141 z142 z143 z144 z145 z146 z147 : Value} {Q : Exit → Act → World → Prop}
    (hQ : ∀ (y74 y75 y76 y77 y78 y79 y80 : Value), Q .normal ⟨List.toArray (z0 :: .slice A n c :: z2 :: z3 :: z4 :: z5 :: z6 :: z7 :: z8 :: z9 :: z10 :: z11 :: z12 :: z13 :: .int .i64 (i : Int) :: z15 :: z16 :: z17 :: z18 :: z19 :: z20 :: z21 :: z22 :: z23 :: z24 :: z25 :: z26 :: z27 :: z28 :: z29 :: z30 :: z31 :: z32 :: z33 :: z34 :: z35 :: z36 :: z37 :: z38 :: z39 :: z40 :: z41 :: z42 :: z43 :: z44 :: z45 :: z46 :: z47 :: z48 :: z49 :: z50 :: z51 :: z52 :: z53 :: z54 :: z55 :: z56 :: z57 :: z58 :: z59 :: z60 :: z61 :: z62 :: z63 :: z64 :: z65 :: z66 :: z67 :: z68 :: z69 :: z70 :: z71 :: z72 :: z73 :: y74 :: y75 :: y76 :: y77 :: y78 :: y79 :: y80 :: .bool (decide (i < n ∧ i < 100)) :: z82 :: z83 :: z84 :: z85 :: z86 :: z87 :: z88 :: z89 :: z90 :: z91 :: z92 :: z93 :: z94 :: z95 :: z96 :: z97 :: z98 :: z99 :: z100 :: z101 :: z102 :: z103 :: z104 :: z105 :: z106 :: z107 :: z108 :: z109 :: z110 :: z111 :: z112 :: z113 :: z114 :: z115 :: z116 :: z117 :: z118 :: z119 :: z120 :: z121 :: z122 :: z123 :: z124 :: z125 :: z126 :: z127 :: z128 :: z129 :: z130 :: z131 :: z132 :: z133 :: z134 :: z135 :: z136 :: z137 :: z138 :: z139 :: z140 :: z141 :: z142 :: z143 :: z144 :: z145 :: z146 :: z147 :: []), []⟩ wr) :
    Code.wp Try.prog (reg8 23) Q ⟨List.toArray (z0 :: .slice A n c :: z2 :: z3 :: z4 :: z5 :: z6 :: z7 :: z8 :: z9 :: z10 :: z11 :: z12 :: z13 :: .int .i64 (i : Int) :: z15 :: z16 :: z17 :: z18 :: z19 :: z20 :: z21 :: z22 :: z23 :: z24 :: z25 :: z26 :: z27 :: z28 :: z29 :: z30 :: z31 :: z32 :: z33 :: z34 :: z35 :: z36 :: z37 :: z38 :: z39 :: z40 :: z41 :: z42 :: z43 :: z44 :: z45 :: z46 :: z47 :: z48 :: z49 :: z50 :: z51 :: z52 :: z53 :: z54 :: z55 :: z56 :: z57 :: z58 :: z59 :: z60 :: z61 :: z62 :: z63 :: z64 :: z65 :: z66 :: z67 :: z68 :: z69 :: z70 :: z71 :: z72 :: z73 :: z74 :: z75 :: z76 :: z77 :: z78 :: z79 :: z80 :: z81 :: z82 :: z83 :: z84 :: z85 :: z86 :: z87 :: z88 :: z89 :: z90 :: z91 :: z92 :: z93 :: z94 :: z95 :: z96 :: z97 :: z98 :: z99 :: z100 :: z101 :: z102 :: z103 :: z104 :: z105 :: z106 :: z107 :: z108 :: z109 :: z110 :: z111 :: z112 :: z113 :: z114 :: z115 :: z116 :: z117 :: z118 :: z119 :: z120 :: z121 :: z122 :: z123 :: z124 :: z125 :: z126 :: z127 :: z128 :: z129 :: z130 :: z131 :: z132 :: z133 :: z134 :: z135 :: z136 :: z137 :: z138 :: z139 :: z140 :: z141 :: z142 :: z143 :: z144 :: z145 :: z146 :: z147 :: []), []⟩ wr := by
  conv => arg 2; whnf
  replace hQ := Lib.hid hQ
  by_cases h1 : i < n
  · refine wp_region_list ?_
    refine l_value rfl (run_move (v := .int .i64 (i : Int)) rfl rfl) ?_
    simp only [Act.put, List.setIfInBounds_toArray, List.set_cons_zero, List.set_cons_succ]
    refine l_value rfl (run_move (v := .slice A n c) rfl rfl) ?_
    simp only [Act.put, List.setIfInBounds_toArray, List.set_cons_zero, List.set_cons_succ]
    refine l_value rfl (run_len29 rfl rfl) ?_
    simp only [Act.put, List.setIfInBounds_toArray, List.set_cons_zero, List.set_cons_succ]
    refine l_value rfl (run_lss3 (b := true) (decide_eq_true (by omega)) rfl rfl rfl) ?_
    simp only [Act.put, List.setIfInBounds_toArray, List.set_cons_zero, List.set_cons_succ]
    refine l_value rfl (run_move (v := .bool true) rfl rfl) ?_
    simp only [Act.put, List.setIfInBounds_toArray, List.set_cons_zero, List.set_cons_succ]
    refine BigFrame.wpList_want (by kernel_rfl) (fun _ hK => wp_value (run_move (v := .int .i64 (i : Int)) rfl rfl) (hK _ _ ?_))
    clear hK
    simp only [Act.put, List.setIfInBounds_toArray, List.set_cons_zero, List.set_cons_succ]
    refine BigFrame.wpList_want (by kernel_rfl) (fun _ hK => wp_value (run_lss3 (b := decide (i < 100)) (decide_eq_decide.2 (by omega)) rfl rfl rfl) (hK _ _ ?_))
    clear hK
    simp only [Act.put, List.setIfInBounds_toArray, List.set_cons_zero, List.set_cons_succ]
    refine l_value rfl (run_pickT (v := .bool (decide (i < 100))) rfl rfl rfl) ?_
    simp only [Act.put, List.setIfInBounds_toArray, List.set_cons_zero, List.set_cons_succ]
    refine wpList_nil ?_
    have e : decide (i < 100) = decide (i < n ∧ i < 100) := decide_eq_decide.2 (by omega)
    rw [e]
    exact hQ.out _ _ _ _ _ _ _
  · refine wp_region_list ?_
    refine l_value rfl (run_move (v := .int .i64 (i : Int)) rfl rfl) ?_
    simp only [Act.put, List.setIfInBounds_toArray, List.set_cons_zero, List.set_cons_succ]
    refine l_value rfl (run_move (v := .slice A n c) rfl rfl) ?_
    simp only [Act.put, List.setIfInBounds_toArray, List.set_cons_zero, List.set_cons_succ]
    refine l_value rfl (run_len29 rfl rfl) ?_
    simp only [Act.put, List.setIfInBounds_toArray, List.set_cons_zero, List.set_cons_succ]
    refine l_value rfl (run_lss3 (b := false) (decide_eq_false (by omega)) rfl rfl rfl) ?_
    simp only [Act.put, List.setIfInBounds_toArray, List.set_cons_zero, List.set_cons_succ]
    refine l_value rfl (run_move (v := .bool false) rfl rfl) ?_
    simp only [Act.put, List.setIfInBounds_toArray, List.set_cons_zero, List.set_cons_succ]
    refine wpList_out (by kernel_rfl) ?_
    simp only [Act.put, List.setIfInBounds_toArray, List.set_cons_zero, List.set_cons_succ]
    refine wpList_out (by kernel_rfl) ?_
    simp only [Act.put, List.setIfInBounds_toArray, List.set_cons_zero, List.set_cons_succ]
    refine l_value rfl (run_pickF (v := .bool false) rfl rfl rfl) ?_
    simp only [Act.put, List.setIfInBounds_toArray, List.set_cons_zero, List.set_cons_succ]
    refine wpList_nil ?_
    have e : false = decide (i < n ∧ i < 100) := (decide_eq_false (by omega)).symm
    rw [e]
    exact hQ.out _ _ _ _ _ _ _

set_option maxRecDepth 100000 in
set_option maxHeartbeats 12800000 in
theorem TopFrames_walk (w : World) (A : Option Addr) (c : Nat) (ts : List Ml) (h0 : Mls w A c ts) (y0 : ∀ i (h : i < ts.length), ts[i].s.length * 32 ≤ 140737488351232 ∧ ts[i].i.length * 16 ≤ 140737488351232) (l0 : ts.length * 104 ≤ 140737488351232)
    (v1 : Value) (zs : List Int) (hi : IntA w v1 zs) (hzs : ∀ n ∈ zs, -9223372036854775808 ≤ n ∧ n ≤ 9223372036854775807) (li : zs.length * 8 ≤ 140737488351232) :
    Calls Try.prog 8 #[.slice A ts.length c, v1] w fun e w' => e = .returned (.bool true) ∧ Below w.heap.size w w' := by
  obtain ⟨A1, c1, rfl, hsi⟩ := hi.sl
  obtain ⟨n, hn⟩ : ∃ n, n = ts.length := ⟨_, rfl⟩
  obtain ⟨zn, hzn⟩ : ∃ n, n = zs.length := ⟨_, rfl⟩
  rw [← hn, ← hzn]
  have hli : zn ≤ 17592186043904 := by omega
  have hlt0 : n ≤ 17592186043904 := by omega
  replace h0 := Lib.hid h0
  replace y0 := Lib.hid y0
  replace hzs := Lib.hid hzs
  replace hsi := Lib.hid hsi
  replace hn := Lib.hid hn
  replace hzn := Lib.hid hzn
  clear hi l0 li
  go_enter Try.func8, Try.ntmps8
  go_upto_region 1 with fail
  refine wp_region_list ?_
  refine l_call (args := #[]) rfl cf21 rfl _ rfl #[] rfl rfl (begins_any w) (fun w1 t1 => ?_)
  simp only [Act.put, List.setIfInBounds_toArray, List.set_cons_zero, List.set_cons_succ]
  refine l_value rfl (run_not (b := true) rfl rfl) ?_
  simp only [Act.put, List.setIfInBounds_toArray, List.set_cons_zero, List.set_cons_succ]
  refine wpList_nil ?_
  replace t1 := Lib.hid t1
  go_wp2
  go_loopw [5, 6, 7, 8, 9] (fun tv wv iv _ _ wr => ∃ i : Nat, i ≤ n ∧ i ≤ 40 ∧ iv = .int .i64 (i : Int) ∧ OwnT w.heap.size wr tv ((val ts i).map txB) ∧ OwnM w wr wv (val ts i) ∧ Touch Nothing w wr) (fun _ _ iv _ _ _ => 40 - (intOf iv).toNat)
  case atStart => exact ⟨0, Nat.zero_le _, Nat.zero_le _, rfl, OwnT.nil _ _, OwnM.nil _ _, t1.out⟩
  case round =>
    obtain ⟨i, hin, hi40, rfl, hT, hM, ht⟩ := hrel
    replace hT := Lib.hid hT
    replace hM := Lib.hid hM
    replace ht := Lib.hid ht
    go_upto_region 6 with fail
    refine head6 _ i n c A ?_
    intro y22 y23 y24 y25 y26 y27 y28
    by_cases hlt : i < n ∧ i < 40
    · rw [decide_eq_true hlt]
      obtain ⟨hlt1, hlt2⟩ := hlt
      have hiL : i < ts.length := by rw [← hn.out]; exact hlt1
      obtain ⟨g, o, ps, cs, pi, ci, rfl, hrg, hS, hI⟩ := (h0.out.keep ht.out).2 i hiL
      obtain ⟨_, _, ps', cs', pi', ci', e9, hrg', hS', hI'⟩ := h0.out.2 i hiL
      obtain ⟨rfl, rfl⟩ : g = _ ∧ o = _ := by simpa using e9
      have hgl : g < w.heap.size := World.block_lt_of_cell? w _ (hrg' 0 _ rfl)
      have hrg2 := fun j u hu => ht.out.cell (hrg' j u hu) (fun q => q)
      have hEn := fun w' (t : Touch Nothing w w') => Encode_any w' (.agg (mlCs ts[i] ps' cs' pi' ci').toArray) ts[i] ⟨ps', cs', pi', ci', rfl, hS'.keep t, hI'.keep0 t⟩ (by have := (y0.out i hiL).1; omega) (by have := (y0.out i hiL).2; omega)
      have hvy := val_yes hiL
      have hvn := val_no hiL
      have hvl := val_le ts i
      obtain ⟨m, em⟩ : ∃ m, m = ts[i] := ⟨_, rfl⟩
      rw [← em] at hrg2 hEn hvy hvn hS' hI'
      have hrg3 : wr.rangeAt g (o + i * 7) (mlCs m ps' cs' pi' ci') := hrg2
      have i2 : IntKind.i64.wrap ((i : Int) + 1) = (i : Int) + 1 := by rw [IntKind.wrap_i64]; omega
      clear hrg hS hI hrg' e9 hrg2
      replace hrg3 := Lib.hid hrg3
      replace hS' := Lib.hid hS'
      replace hI' := Lib.hid hI'
      replace em := Lib.hid em
      replace hvn := Lib.hid hvn
      replace hvy := Lib.hid hvy
      go_upto_region 8 with fail
      refine wp_region_list ?_
      refine l_value rfl (run_move (v := .slice (some ⟨g, o, none⟩) n c) rfl rfl) ?_
      simp only [Act.put, List.setIfInBounds_toArray, List.set_cons_zero, List.set_cons_succ]
      refine l_value rfl (run_move (v := .int .i64 (i : Int)) rfl rfl) ?_
      simp only [Act.put, List.setIfInBounds_toArray, List.set_cons_zero, List.set_cons_succ]
      refine l_value rfl (run_ia45 i rfl rfl rfl hlt1) ?_
      simp only [Act.put, List.setIfInBounds_toArray, List.set_cons_zero, List.set_cons_succ]
      refine l_value rfl (run_loadR (cs := mlCs m ps' cs' pi' ci') rfl rfl hrg3.out Try.underlying49 rfl (info49l _ _ _ _ _)) ?_
      simp only [Act.put, List.setIfInBounds_toArray, List.set_cons_zero, List.set_cons_succ]
      by_cases hc : chkM m = true
      · have hE2 : ∀ w', Touch Nothing w w' → Calls Try.prog 22 #[.agg (mlCs m ps' cs' pi' ci').toArray] w' fun r w2 => r = .returned (.tuple #[.string (txB m), .int .i64 0]) ∧ Touch Nothing w' w2 := by
          intro w' t
          have := hEn w' t
          unfold encR at this
          rw [if_pos hc] at this
          exact this
        clear hEn
        refine l_call (args := #[.agg (mlCs m ps' cs' pi' ci').toArray]) rfl cf22 rfl _ rfl #[] rfl rfl (hE2 wr ht.out) (fun w2 t2 => ?_)
        replace hE2 := Lib.hid hE2
        simp only [Act.put, List.setIfInBounds_toArray, List.set_cons_zero, List.set_cons_succ]
        refine l_value rfl (run_move (v := .tuple #[.string (txB m), .int .i64 0]) rfl rfl) ?_
        simp only [Act.put, List.setIfInBounds_toArray, List.set_cons_zero, List.set_cons_succ]
        refine l_value rfl (run_ext (v := .string (txB m)) rfl rfl (by kernel_rfl)) ?_
        simp only [Act.put, List.setIfInBounds_toArray, List.set_cons_zero, List.set_cons_succ]
        refine l_value rfl (run_ext (v := .int .i64 0) rfl rfl (by kernel_rfl)) ?_
        simp only [Act.put, List.setIfInBounds_toArray, List.set_cons_zero, List.set_cons_succ]
        refine l_value rfl (run_asgn (v := .string (txB m)) rfl rfl) ?_
        simp only [Act.put, List.setIfInBounds_toArray, List.set_cons_zero, List.set_cons_succ]
        refine l_value rfl (run_asgn (v := .int .i64 0) rfl rfl) ?_
        simp only [Act.put, List.setIfInBounds_toArray, List.set_cons_zero, List.set_cons_succ]
        refine wpList_nil ?_
        have hT2 := hT.out.keep t2 (fun _ _ q => q)
        have hM2 := hM.out.keep t2 (fun _ _ q => q)
        have hr2 : w2.rangeAt g (o + i * 7) (mlCs m ps' cs' pi' ci') := fun j u hu => t2.cell (hrg3.out j u hu) (fun q => q)
        have ht2 := ht.out.trans' t2
        replace hT2 := Lib.hid hT2
        replace hM2 := Lib.hid hM2
        replace hr2 := Lib.hid hr2
        replace ht2 := Lib.hid ht2
        clear t2
        go_upto_region 9 with fail
        refine wp_region_list ?_
        refine l_value rfl (run_move (v := .int .i64 0) rfl rfl) ?_
        simp only [Act.put, List.setIfInBounds_toArray, List.set_cons_zero, List.set_cons_succ]
        refine l_value rfl (run_eq23 (b := true) (by rfl) rfl rfl rfl) ?_
        simp only [Act.put, List.setIfInBounds_toArray, List.set_cons_zero, List.set_cons_succ]
        refine wpList_nil ?_
        go_upto_region 10 with fail
        refine wp_region_list ?_
        refine l_value rfl (run_move (v := u5) rfl rfl) ?_
        simp only [Act.put, List.setIfInBounds_toArray, List.set_cons_zero, List.set_cons_succ]
        refine l_value rfl (run_move (v := .string (txB m)) rfl rfl) ?_
        simp only [Act.put, List.setIfInBounds_toArray, List.set_cons_zero, List.set_cons_succ]
        refine l_value rfl (run_bs221 (y := txB m) rfl rfl) ?_
        simp only [Act.put, List.setIfInBounds_toArray, List.set_cons_zero, List.set_cons_succ]
        have hT3 := hT2.out.keep ((Touch.refl Nothing w2).alloc (.cells #[.string (txB m)] 9)) (fun _ _ q => q)
        have hM3 := hM2.out.keep ((Touch.refl Nothing w2).alloc (.cells #[.string (txB m)] 9)) (fun _ _ q => q)
        have hr3 : (w2.alloc (.cells #[.string (txB m)] 9)).rangeAt g (o + i * 7) (mlCs m ps' cs' pi' ci') := fun j u hu => ((Touch.refl Nothing w2).alloc (.cells #[.string (txB m)] 9)).cell (hr2.out j u hu) (fun q => q)
        have ht3 := ht2.out.alloc (.cells #[.string (txB m)] 9)
        have hgn := heap_alloc_new w2 (.cells #[.string (txB m)] 9)
        obtain ⟨w3, e3⟩ : ∃ v, v = w2.alloc (.cells #[.string (txB m)] 9) := ⟨_, rfl⟩
        obtain ⟨g3, eg3⟩ : ∃ v, v = w2.heap.size := ⟨_, rfl⟩
        rw [← e3, ← eg3] at hgn
        rw [← e3] at hT3 hM3 hr3 ht3
        rw [← e3, ← eg3]
        replace e3 := Lib.hid e3
        replace eg3 := Lib.hid eg3
        refine wpList_plain rfl (fun _ hK => wp_appT (B := w.heap.size) (v := u5) (L := (val ts i).map txB) (y := txB m) (g := g3) _ _ rfl rfl hT3 rfl hgn ht3.size (by rw [List.length_map]; omega) (fun tv' w4 hT4 uu4 => hK _ _ ?_))
        clear hK
        simp only [Act.put, List.setIfInBounds_toArray, List.set_cons_zero, List.set_cons_succ]
        refine l_value rfl (run_asgn (v := tv') rfl rfl) ?_
        simp only [Act.put, List.setIfInBounds_toArray, List.set_cons_zero, List.set_cons_succ]
        refine wpList_nil ?_
        have hM4 := hM3.keep uu4 (fun b hb q => ownMT_ne hM3 hT3 hb q)
        have ht4 : Touch Nothing w w4 := ht3.trans uu4 (fun k hk q => by have := hT3.2 k q; omega)
        have hr4 : w4.rangeAt g (o + i * 7) (mlCs m ps' cs' pi' ci') := fun j u hu => uu4.cell (hr3 j u hu) (fun q => by have := hT3.2 g q; omega)
        replace hT4 := Lib.hid hT4
        replace hM4 := Lib.hid hM4
        replace ht4 := Lib.hid ht4
        replace hr4 := Lib.hid hr4
        clear hT3 hM3 hr3 ht3 hgn uu4
        go_upto_region 11 with fail
        refine wp_region_list ?_
        refine l_value rfl (run_move (v := u6) rfl rfl) ?_
        simp only [Act.put, List.setIfInBounds_toArray, List.set_cons_zero, List.set_cons_succ]
        refine l_value rfl (run_move (v := .slice (some ⟨g, o, none⟩) n c) rfl rfl) ?_
        simp only [Act.put, List.setIfInBounds_toArray, List.set_cons_zero, List.set_cons_succ]
        refine l_value rfl (run_move (v := .int .i64 (i : Int)) rfl rfl) ?_
        simp only [Act.put, List.setIfInBounds_toArray, List.set_cons_zero, List.set_cons_succ]
        refine l_value rfl (run_ia45 i rfl rfl rfl hlt1) ?_
        simp only [Act.put, List.setIfInBounds_toArray, List.set_cons_zero, List.set_cons_succ]
        refine l_value rfl (run_loadR (cs := mlCs m ps' cs' pi' ci') rfl rfl hr4.out Try.underlying49 rfl (info49l _ _ _ _ _)) ?_
        simp only [Act.put, List.setIfInBounds_toArray, List.set_cons_zero, List.set_cons_succ]
        refine l_value rfl (run_bs45 (m := m) (ps := ps') (cs := cs') (pi := pi') (ci := ci') rfl rfl) ?_
        simp only [Act.put, List.setIfInBounds_toArray, List.set_cons_zero, List.set_cons_succ]
        have hT5 := hT4.out.keep ((Touch.refl Nothing w4).alloc (.cells (mlCs m ps' cs' pi' ci').toArray 49)) (fun _ _ q => q)
        have hM5 := hM4.out.keep ((Touch.refl Nothing w4).alloc (.cells (mlCs m ps' cs' pi' ci').toArray 49)) (fun _ _ q => q)
        have ht5 := ht4.out.alloc (.cells (mlCs m ps' cs' pi' ci').toArray 49)
        have hgn := heap_alloc_new w4 (.cells (mlCs m ps' cs' pi' ci').toArray 49)
        obtain ⟨w5, e5⟩ : ∃ v, v = w4.alloc (.cells (mlCs m ps' cs' pi' ci').toArray 49) := ⟨_, rfl⟩
        obtain ⟨g5, eg5⟩ : ∃ v, v = w4.heap.size := ⟨_, rfl⟩
        rw [← e5, ← eg5] at hgn
        rw [← e5] at hT5 hM5 ht5
        rw [← e5, ← eg5]
        replace e5 := Lib.hid e5
        replace eg5 := Lib.hid eg5
        refine wpList_plain rfl (fun _ hK => wp_appM (w0 := w) (v := u6) (ts := val ts i) (y := m) (g := g5) _ _ rfl rfl hM5 rfl hgn hS'.out hI'.out ht5.size (by omega) (fun wv' w6 hM6 uu6 => hK _ _ ?_))
        clear hK
        simp only [Act.put, List.setIfInBounds_toArray, List.set_cons_zero, List.set_cons_succ]
        refine l_value rfl (run_asgn (v := wv') rfl rfl) ?_
        simp only [Act.put, List.setIfInBounds_toArray, List.set_cons_zero, List.set_cons_succ]
        refine wpList_nil ?_
        have hT6 := hT5.keep uu6 (fun b hb q => ownMT_ne hM5 hT5 q hb)
        have ht6 : Touch Nothing w w6 := ht5.trans uu6 (fun k hk q => by have := hM5.new k q; omega)
        have hT7 : OwnT w.heap.size w6 tv' ((val ts (i + 1)).map txB) := by
          rw [hvy.out hc, List.map_append]
          exact hT6
        have hM7 : OwnM w w6 wv' (val ts (i + 1)) := by
          rw [hvy.out hc]
          exact hM6
        replace hT7 := Lib.hid hT7
        replace hM7 := Lib.hid hM7
        replace ht6 := Lib.hid ht6
        clear hT5 hM5 ht5 hgn uu6 hM6 hT6
        go_wp2
        exact ⟨⟨i + 1, by omega, by omega, by simp, hT7.out, hM7.out, ht6.out⟩, by simp [intOf]; omega⟩
      · have hE2 : ∀ w', Touch Nothing w w' → Calls Try.prog 22 #[.agg (mlCs m ps' cs' pi' ci').toArray] w' fun r w2 => r = .returned (.tuple #[.string ⟨#[]⟩, .int .i64 110]) ∧ Touch Nothing w' w2 := by
          intro w' t
          have := hEn w' t
          unfold encR at this
          rw [if_neg hc] at this
          exact this
        clear hEn
        refine l_call (args := #[.agg (mlCs m ps' cs' pi' ci').toArray]) rfl cf22 rfl _ rfl #[] rfl rfl (hE2 wr ht.out) (fun w2 t2 => ?_)
        replace hE2 := Lib.hid hE2
        simp only [Act.put, List.setIfInBounds_toArray, List.set_cons_zero, List.set_cons_succ]
        refine l_value rfl (run_move (v := .tuple #[.string ⟨#[]⟩, .int .i64 110]) rfl rfl) ?_
        simp only [Act.put, List.setIfInBounds_toArray, List.set_cons_zero, List.set_cons_succ]
        refine l_value rfl (run_ext (v := .string ⟨#[]⟩) rfl rfl (by kernel_rfl)) ?_
        simp only [Act.put, List.setIfInBounds_toArray, List.set_cons_zero, List.set_cons_succ]
        refine l_value rfl (run_ext (v := .int .i64 110) rfl rfl (by kernel_rfl)) ?_
        simp only [Act.put, List.setIfInBounds_toArray, List.set_cons_zero, List.set_cons_succ]
        refine l_value rfl (run_asgn (v := .string ⟨#[]⟩) rfl rfl) ?_
        simp only [Act.put, List.setIfInBounds_toArray, List.set_cons_zero, List.set_cons_succ]
        refine l_value rfl (run_asgn (v := .int .i64 110) rfl rfl) ?_
        simp only [Act.put, List.setIfInBounds_toArray, List.set_cons_zero, List.set_cons_succ]
        refine wpList_nil ?_
        have hT7 : OwnT w.heap.size w2 u5 ((val ts (i + 1)).map txB) := by
          rw [hvn.out (by simpa using hc)]
          exact hT.out.keep t2 (fun _ _ q => q)
        have hM7 : OwnM w w2 u6 (val ts (i + 1)) := by
          rw [hvn.out (by simpa using hc)]
          exact hM.out.keep t2 (fun _ _ q => q)
        have ht2 := ht.out.trans' t2
        replace hT7 := Lib.hid hT7
        replace hM7 := Lib.hid hM7
        replace ht2 := Lib.hid ht2
        clear t2
        go_upto_region 9 with fail
        refine wp_region_list ?_
        refine l_value rfl (run_move (v := .int .i64 110) rfl rfl) ?_
        simp only [Act.put, List.setIfInBounds_toArray, List.set_cons_zero, List.set_cons_succ]
        refine l_value rfl (run_eq23 (b := false) (by rfl) rfl rfl rfl) ?_
        simp only [Act.put, List.setIfInBounds_toArray, List.set_cons_zero, List.set_cons_succ]
        refine wpList_nil ?_
        go_upto_region 12 with fail
        refine wp_region_list ?_
        refine l_value rfl (run_move (v := .string ⟨#[]⟩) rfl rfl) ?_
        simp only [Act.put, List.setIfInBounds_toArray, List.set_cons_zero, List.set_cons_succ]
        refine l_value rfl (run_nes (b := false) (by simp) rfl rfl rfl) ?_
        simp only [Act.put, List.setIfInBounds_toArray, List.set_cons_zero, List.set_cons_succ]
        refine wpList_nil ?_
        go_wp2
        exact ⟨⟨i + 1, by omega, by omega, by simp, hT7.out, hM7.out, ht2.out⟩, by simp [intOf]; omega⟩
    · rw [decide_eq_false hlt]
      have hvf := val_facts ts i hi40
      have hvl := val_le ts i
      obtain ⟨V, eV⟩ : ∃ V, V = val ts i := ⟨_, rfl⟩
      have hVok : ∀ m ∈ V, chkM m = true := fun m hm => val_ok (eV ▸ hm)
      have hVb : ∀ m ∈ V, m.s.length ≤ 4611686018427387904 ∧ m.i.length ≤ 4611686018427387904 := fun m hm => by
        have := val_in (eV ▸ hm)
        obtain ⟨j, hj, rfl⟩ := List.mem_iff_getElem.1 this
        have := y0.out j hj
        omega
      rw [← eV] at hvf hvl hT hM
      obtain ⟨hof, hl4, hml, hsum⟩ := hvf
      obtain ⟨tp, tc, rfl, hTs⟩ := hT.out.sl
      obtain ⟨wp, wq, rfl⟩ := hM.out.isSl
      obtain ⟨F, eF⟩ : ∃ F : ByteArray, F = ⟨(frames (V.map encM)).toArray⟩ := ⟨_, rfl⟩
      have hOf : Calls Try.prog 9 #[.slice tp (V.map txB).length tc] wr fun e w2 => e = .returned (.tuple #[.string F, .int .i64 0]) ∧ Touch Nothing wr w2 := by
        rw [eF]
        exact (of_is hTs (by omega) hof rfl).mono fun e w2 q => ⟨q.1, Touch.ofBelow0 q.2⟩
      have hFd : Fd (V.map encM) 0 [] (tx F) := by rw [eF]; exact Fd.start _
      obtain ⟨nt, ent⟩ : ∃ k, k = (V.map txB).length := ⟨_, rfl⟩
      obtain ⟨nv, env⟩ : ∃ k, k = V.length := ⟨_, rfl⟩
      rw [← ent] at hOf ⊢
      replace hM := hM.out
      rw [← env] at hvl hM ⊢
      replace hOf := Lib.hid hOf
      replace hFd := Lib.hid hFd
      replace hl4 := Lib.hid hl4
      replace hml := Lib.hid hml
      replace eF := Lib.hid eF
      replace eV := Lib.hid eV
      replace ent := Lib.hid ent
      replace env := Lib.hid env
      replace hVok := Lib.hid hVok
      replace hVb := Lib.hid hVb
      clear hT hTs hof hsum hlt
      go_upto_region 14 with fail
      refine wp_region_list ?_
      refine l_value rfl (run_move (v := .slice tp nt tc) rfl rfl) ?_
      simp only [Act.put, List.setIfInBounds_toArray, List.set_cons_zero, List.set_cons_succ]
      refine l_call (args := #[.slice tp nt tc]) rfl cf9 rfl _ rfl #[] rfl rfl hOf.out (fun w2 t2 => ?_)
      simp only [Act.put, List.setIfInBounds_toArray, List.set_cons_zero, List.set_cons_succ]
      refine l_value rfl (run_move (v := .tuple #[.string F, .int .i64 0]) rfl rfl) ?_
      simp only [Act.put, List.setIfInBounds_toArray, List.set_cons_zero, List.set_cons_succ]
      refine l_value rfl (run_ext (v := .string F) rfl rfl (by kernel_rfl)) ?_
      simp only [Act.put, List.setIfInBounds_toArray, List.set_cons_zero, List.set_cons_succ]
      refine l_value rfl (run_ext (v := .int .i64 0) rfl rfl (by kernel_rfl)) ?_
      simp only [Act.put, List.setIfInBounds_toArray, List.set_cons_zero, List.set_cons_succ]
      refine l_value rfl (run_asgn (v := .string F) rfl rfl) ?_
      simp only [Act.put, List.setIfInBounds_toArray, List.set_cons_zero, List.set_cons_succ]
      refine l_value rfl (run_asgn (v := .int .i64 0) rfl rfl) ?_
      simp only [Act.put, List.setIfInBounds_toArray, List.set_cons_zero, List.set_cons_succ]
      refine wpList_nil ?_
      have ht2 := ht.out.trans' t2
      have hM2 := hM.keep t2 (fun _ _ q => q)
      replace ht2 := Lib.hid ht2
      replace hM2 := Lib.hid hM2
      clear t2 hM
      replace hOf := Lib.hid hOf
      go_upto_region 15 with fail
      refine wp_region_list ?_
      refine l_call (args := #[]) rfl cf12 rfl _ rfl #[] rfl rfl (new_any w2) (fun w3 e3 => ?_)
      simp only [Act.put, List.setIfInBounds_toArray, List.set_cons_zero, List.set_cons_succ]
      refine l_value rfl (run_asgn (v := .pointer (some ⟨w2.heap.size, 0, none⟩)) rfl rfl) ?_
      simp only [Act.put, List.setIfInBounds_toArray, List.set_cons_zero, List.set_cons_succ]
      refine wpList_nil ?_
      have hR := new_rd w2
      have ht3 := ht2.out.alloc (.cells #[.slice none 0 0, .int .i64 0, .bool false] 67)
      have hM3 := hM2.out.keep ((Touch.refl Nothing w2).alloc (.cells #[.slice none 0 0, .int .i64 0, .bool false] 67)) (fun _ _ q => q)
      have hwb : ∀ b, (Value.slice wp nv wq).ownBlock = some b → b < w2.heap.size := fun b hb => by
        obtain ⟨F', h1, _⟩ := hM2.out
        exact (h1.lt b hb).2
      have hgl := ht2.out.size
      rw [← e3] at hR ht3 hM3
      obtain ⟨g, eg⟩ : ∃ g, g = w2.heap.size := ⟨_, rfl⟩
      rw [← eg] at hR hgl hwb ⊢
      replace hR := Lib.hid hR
      replace ht3 := Lib.hid ht3
      replace hM3 := Lib.hid hM3
      replace hwb := Lib.hid hwb
      replace e3 := Lib.hid e3
      replace eg := Lib.hid eg
      clear ht2 hM2
      go_upto_region 16 with fail
      refine wp_region_list ?_
      refine l_value rfl (run_move (v := .int .i64 0) rfl rfl) ?_
      simp only [Act.put, List.setIfInBounds_toArray, List.set_cons_zero, List.set_cons_succ]
      refine l_value rfl (run_ne23 (b := false) (by rfl) rfl rfl rfl) ?_
      simp only [Act.put, List.setIfInBounds_toArray, List.set_cons_zero, List.set_cons_succ]
      refine l_value rfl (run_move (v := .bool false) rfl rfl) ?_
      simp only [Act.put, List.setIfInBounds_toArray, List.set_cons_zero, List.set_cons_succ]
      refine BigFrame.wpList_want (by kernel_rfl) (fun _ hK => wp_value (run_move rfl rfl) (hK _ _ ?_))
      clear hK
      simp only [Act.put, List.setIfInBounds_toArray, List.set_cons_zero, List.set_cons_succ]
      refine BigFrame.wpList_want (by kernel_rfl) (fun _ hK => wp_value (run_nil30 rfl rfl) (hK _ _ ?_))
      clear hK
      simp only [Act.put, List.setIfInBounds_toArray, List.set_cons_zero, List.set_cons_succ]
      refine l_value rfl (run_pickF (v := .bool false) rfl rfl rfl) ?_
      simp only [Act.put, List.setIfInBounds_toArray, List.set_cons_zero, List.set_cons_succ]
      refine wpList_nil ?_
      obtain ⟨wo, rfl⟩ : ∃ wo : World, wo = wr := ⟨_, rfl⟩
      go_wp2
      go_loopw [10, 13, 14, 15, 16, 17, 18, 19] (fun xv av iv _ _ _ _ _ wr => ∃ (i k : Nat) (x : ByteArray) (b : List UInt8) (sv : Value), xv = .string x ∧ av = .int .i64 (k : Int) ∧ iv = .int .i64 (i : Int) ∧ Rd wr g sv ⟨b, false⟩ ∧ (∀ j, sv.ownBlock = some j → g < j) ∧
          Fd (V.map encM) k b (tx x) ∧ (tx x = [] → k = (V.map encM).length ∧ b = []) ∧ OwnM w wr (.slice wp nv wq) V ∧ Touch Nothing w wr ∧ i ≤ 101 ∧ (101 ≤ i → x.size = 0)) (fun _ _ iv _ _ _ _ _ _ => 101 - (intOf iv).toNat)
      case atStart =>
        refine ⟨0, 0, F, [], _, rfl, rfl, rfl, hR.out, fun j hj => by simp [Value.ownBlock] at hj, hFd.out, fun h => ?_, hM3.out, ht3.out, by omega, by omega⟩
        have := hFd.out
        rw [h] at this
        exact ⟨this.ended, rfl⟩
      case round =>
        clear hR hM3 ht3 hFd
        obtain ⟨i2, k, x, b, sv, rfl, rfl, rfl, hR, hsv, hF, hFe, hM, ht, hi101, hiz⟩ := hrel
        have hxm : x.size ≤ 1048576 := by
          have := hF.len
          have := hml.out
          rw [tx_len] at *
          omega
        have hkV : k ≤ nv := by
          have := hF.le
          rw [List.length_map, ← env.out] at this
          exact this
        replace hR := Lib.hid hR
        replace hsv := Lib.hid hsv
        replace hF := Lib.hid hF
        replace hFe := Lib.hid hFe
        replace hM := Lib.hid hM
        replace ht := Lib.hid ht
        replace hiz := Lib.hid hiz
        go_upto_region 20 with fail
        by_cases hx : 0 < x.size
        · refine wp_region_list ?_
          refine l_value rfl (run_move (v := .string x) rfl rfl) ?_
          simp only [Act.put, List.setIfInBounds_toArray, List.set_cons_zero, List.set_cons_succ]
          refine l_value rfl (run_len9 (s := x) rfl rfl) ?_
          simp only [Act.put, List.setIfInBounds_toArray, List.set_cons_zero, List.set_cons_succ]
          refine l_value rfl (run_gtr3 (b := true) (decide_eq_true (by omega)) rfl rfl rfl) ?_
          simp only [Act.put, List.setIfInBounds_toArray, List.set_cons_zero, List.set_cons_succ]
          refine wpList_nil ?_
          go_upto_region 22 with fail
          refine wp_region_list ?_
          refine l_value rfl (run_move (v := .string x) rfl rfl) ?_
          simp only [Act.put, List.setIfInBounds_toArray, List.set_cons_zero, List.set_cons_succ]
          refine l_value rfl (run_len9 (s := x) rfl rfl) ?_
          simp only [Act.put, List.setIfInBounds_toArray, List.set_cons_zero, List.set_cons_succ]
          refine l_value rfl (run_asgn (v := .int .i64 (x.size : Int)) rfl rfl) ?_
          simp only [Act.put, List.setIfInBounds_toArray, List.set_cons_zero, List.set_cons_succ]
          refine wpList_nil ?_
          go_upto_region 23 with fail
          refine head23 _ i2 zn c1 A1 ?_
          intro y74 y75 y76 y77 y78 y79 y80
          go_upto_if 81 with (fail)
          go_cut [15] (fun v wx => ∃ m : Nat, m ≤ x.size ∧ Hid (100 ≤ i2 → m = x.size) ∧ v = .int .i64 (m : Int) ∧ wx = wr)
          case first =>
            by_cases hz : i2 < zn ∧ i2 < 100
            · rw [decide_eq_true hz]
              obtain ⟨hz1, hz2⟩ := hz
              have hzL : i2 < zs.length := by rw [← hzn.out]; exact hz1
              obtain ⟨g1, o1, rfl, hca⟩ := hsi.out i2 hzL
              have hcq := ht.out.cell hca (fun q => q)
              have hzb := hzs.out _ (List.getElem_mem hzL)
              obtain ⟨z, hz'⟩ : ∃ z, z = zs[i2] := ⟨_, rfl⟩
              rw [← hz'] at hcq hzb
              replace hz' := Lib.hid hz'
              clear hca
              go_wp2_with fail
              go_meet
              obtain ⟨m, hm1, hm2⟩ := cut_num z hxm
              exact ⟨m, hm1, Lib.hid (fun q => absurd q (by omega)), by rw [hm2], rfl⟩
            · rw [decide_eq_false hz]
              go_wp2_with fail
              go_meet
              exact ⟨x.size, Nat.le_refl _, Lib.hid (fun _ => rfl), rfl, rfl⟩
          case rest =>
            obtain ⟨m, hm, hmi, rfl, rfl⟩ := hcut
            have hF' := hF.out
            rw [← List.take_append_drop m (tx x)] at hF'
            obtain ⟨htk, hF2⟩ := hF'.take hl4.out hml.out
            have htc : tx (x.extract 0 m) = (tx x).take m := by rw [tx_extract]; simp
            have htd : tx (x.extract m x.size) = (tx x).drop m := by rw [tx_extract, List.take_of_length_le]; simp [tx_len]
            rw [← htc] at htk hF2
            rw [← htd] at hF2
            have hcz : (x.extract 0 m).size ≤ 9223372036854775807 := by rw [ByteArray.size_extract]; omega
            have hdz : (x.extract m x.size).size = x.size - m := by rw [ByteArray.size_extract]; omega
            obtain ⟨x2, ex2⟩ : ∃ y, y = x.extract m x.size := ⟨_, rfl⟩
            obtain ⟨b1, eb1⟩ : ∃ y, y = b ++ tx (x.extract 0 m) := ⟨_, rfl⟩
            rw [← ex2] at hF2 hdz
            rw [← eb1] at hF2 htk
            have hmi' : (m : Int) ≤ (x.size : Int) := by omega
            have i3 : IntKind.i64.wrap ((nv : Int) + 1) = (nv : Int) + 1 := by rw [IntKind.wrap_i64]; omega
            have i4 : IntKind.i64.wrap ((i2 : Int) + 1) = (i2 : Int) + 1 := by rw [IntKind.wrap_i64]; omega
            replace htk := Lib.hid htk
            replace hF2 := Lib.hid hF2
            replace hcz := Lib.hid hcz
            replace hdz := Lib.hid hdz
            replace ex2 := Lib.hid ex2
            replace eb1 := Lib.hid eb1
            replace hiz := Lib.hid hiz
            clear htc htd hF' hFe
            go_upto_region 28 with (first | (go_at_call 13; refine (take_is hR.out hcz.out htk.out).mono ?_; rintro e w4 ⟨rfl, hp4⟩))
            rw [← ex2.out]
            obtain ⟨sv4, hR4, t4, hs4⟩ := hp4
            have ht4 : Touch Nothing w w4 := ht.out.trans t4 (fun j hj q => by
              rcases q with q | q
              · omega
              · have := hsv.out j q; omega)
            have hM4 := hM.out.keep t4 (fun b hb q => by
              have := hwb.out b hb
              rcases q with q | q
              · omega
              · have := hsv.out b q; omega)
            have hsv4 : ∀ j, sv4.ownBlock = some j → g < j := fun j hj => by
              rcases hs4 j hj with q | q
              · exact hsv.out j q
              · have := (rd_lt hR.out).1; omega
            replace hR4 := Lib.hid hR4
            replace ht4 := Lib.hid ht4
            replace hM4 := Lib.hid hM4
            replace hsv4 := Lib.hid hsv4
            clear t4 hs4 hR ht hM hsv htk hcz hF
            go_wp2
            have hi100 : i2 ≤ 100 := by
              rcases Nat.lt_or_ge i2 101 with q | q
              · omega
              · have := hiz.out q; omega
            have hz2 : 101 ≤ i2 + 1 → x2.size = 0 := fun q => by have := hdz.out; have := hmi.out (by omega); omega
            replace hz2 := Lib.hid hz2
            clear hiz hdz
            go_loopw [13, 16, 17, 18, 19, 105] (fun av _ _ _ _ jv wr => ∃ (j k2 : Nat) (b2 : List UInt8) (sv2 : Value), k2 = k + j ∧ av = .int .i64 (k2 : Int) ∧ jv = .int .i64 (j : Int) ∧ Rd wr g sv2 ⟨b2, false⟩ ∧ (∀ q, sv2.ownBlock = some q → g < q) ∧
                Fd (V.map encM) k2 b2 (tx x2) ∧ OwnM w wr (.slice wp nv wq) V ∧ Touch Nothing w wr) (fun _ _ _ _ _ jv _ => nv + 1 - (intOf jv).toNat)
            case atStart => exact ⟨0, k, b1, sv4, rfl, rfl, rfl, hR4.out, hsv4.out, hF2.out, hM4.out, ht4.out⟩
            case round =>
              clear hR4 hsv4 hF2 hM4 ht4
              obtain ⟨j, k2, b2, sv2, ek2, rfl, rfl, hR2, hs2, hF3, hM5, ht5⟩ := hrel
              have hk2 : k2 ≤ nv := by
                have := hF3.le
                rw [List.length_map, ← env.out] at this
                exact this
              have hj1 : (j : Int) < (nv : Int) + 1 := by omega
              have i5 : IntKind.i64.wrap ((j : Int) + 1) = (j : Int) + 1 := by rw [IntKind.wrap_i64]; omega
              have i6 : IntKind.i64.wrap ((k2 : Int) + 1) = (k2 : Int) + 1 := by rw [IntKind.wrap_i64]; omega
              have hFn := hF3.next hl4.out
              replace hR2 := Lib.hid hR2
              replace hs2 := Lib.hid hs2
              replace hF3 := Lib.hid hF3
              replace hM5 := Lib.hid hM5
              replace ht5 := Lib.hid ht5
              rcases hFn with ⟨hkl, b3, hnx, hF5⟩ | ⟨hnx, hend⟩
              · have hkV : k2 < V.length := by rw [List.length_map] at hkl; exact hkl
                have hkv : k2 < nv := by rw [env.out]; exact hkV
                rw [List.getElem_map] at hnx
                have hmk := hVok.out V[k2] (List.getElem_mem hkV)
                have hmb := hVb.out V[k2] (List.getElem_mem hkV)
                obtain ⟨mm, emm⟩ : ∃ mm, mm = V[k2] := ⟨_, rfl⟩
                rw [← emm] at hnx hmk hmb
                have hDe := fun w' => (Decode_any w' mm hmk).mono fun e w2 q => (by
                  obtain ⟨v, h1, h2⟩ := q
                  exact ⟨_, h1, v, rfl, h2⟩ : ∃ v, e = .returned v ∧ ∃ v1, v = .tuple #[v1, .int .i64 0] ∧ MlA w2 v1 mm ∧ Touch Nothing w' w2)
                have hNx : Calls Try.prog 16 #[.pointer (some ⟨g, 0, none⟩)] wr fun e w' => e = .returned (.tuple #[.string (txB mm), .bool true]) ∧ RdPost wr g sv2 ⟨b3, false⟩ w' := next_is hR2.out hnx
                replace hNx := Lib.hid hNx
                replace hDe := Lib.hid hDe
                replace emm := Lib.hid emm
                replace hnx := Lib.hid hnx
                replace hF5 := Lib.hid hF5
                clear hF3 hmk
                go_upto_region 30 with fail
                refine wp_region_list ?_
                refine l_value rfl (run_move (v := .pointer (some ⟨g, 0, none⟩)) rfl rfl) ?_
                simp only [Act.put, List.setIfInBounds_toArray, List.set_cons_zero, List.set_cons_succ]
                refine l_call (args := #[.pointer (some ⟨g, 0, none⟩)]) rfl cf16 rfl _ rfl #[] rfl rfl hNx.out (fun w7 t7 => ?_)
                simp only [Act.put, List.setIfInBounds_toArray, List.set_cons_zero, List.set_cons_succ]
                refine l_value rfl (run_move (v := .tuple #[.string (txB mm), .bool true]) rfl rfl) ?_
                simp only [Act.put, List.setIfInBounds_toArray, List.set_cons_zero, List.set_cons_succ]
                refine l_value rfl (run_ext (v := .string (txB mm)) rfl rfl (by kernel_rfl)) ?_
                simp only [Act.put, List.setIfInBounds_toArray, List.set_cons_zero, List.set_cons_succ]
                refine l_value rfl (run_ext (v := .bool true) rfl rfl (by kernel_rfl)) ?_
                simp only [Act.put, List.setIfInBounds_toArray, List.set_cons_zero, List.set_cons_succ]
                refine l_value rfl (run_asgn (v := .string (txB mm)) rfl rfl) ?_
                simp only [Act.put, List.setIfInBounds_toArray, List.set_cons_zero, List.set_cons_succ]
                refine l_value rfl (run_asgn (v := .bool true) rfl rfl) ?_
                simp only [Act.put, List.setIfInBounds_toArray, List.set_cons_zero, List.set_cons_succ]
                refine wpList_nil ?_
                clear hNx
                obtain ⟨sv6, hR6, t6, hs6⟩ := t7
                have ht6 : Touch Nothing w w7 := ht5.out.trans t6 (fun j hj q => by
                  rcases q with q | q
                  · omega
                  · have := hs2.out j q; omega)
                have hM6 := hM5.out.keep t6 (fun b hb q => by
                  have := hwb.out b hb
                  rcases q with q | q
                  · omega
                  · have := hs2.out b q; omega)
                have hs7 : ∀ j, sv6.ownBlock = some j → g < j := fun j hj => by
                  rcases hs6 j hj with q | q
                  · exact hs2.out j q
                  · have := (rd_lt hR2.out).1; omega
                replace hR6 := Lib.hid hR6
                replace ht6 := Lib.hid ht6
                replace hM6 := Lib.hid hM6
                replace hs7 := Lib.hid hs7
                clear t6 hs6 hR2 hs2 hM5 ht5
                go_upto_region 32 with fail
                refine wp_region_list ?_
                refine l_value rfl (run_move (v := .string (txB mm)) rfl rfl) ?_
                simp only [Act.put, List.setIfInBounds_toArray, List.set_cons_zero, List.set_cons_succ]
                refine wpList_plain rfl (fun K hK => wp_callx (args := #[.string (txB mm)]) cf23 rfl _ rfl #[] rfl rfl (hDe.out w7) (fun v w11 hq => hK _ _ ?_))
                clear hK K
                obtain ⟨va, rfl, hA, t11⟩ := hq
                obtain ⟨ps, cs, pi, ci, rfl, hS, hI⟩ := hA
                have t12 := ht6.out.trans' t11
                have hM12 := hM6.out.keep t11 (fun _ _ q => q)
                have hR12 := hR6.out.touch t11 (fun q => q) (fun _ _ q => q)
                clear t11 hDe
                simp only [Act.put, List.setIfInBounds_toArray, List.set_cons_zero, List.set_cons_succ]
                refine l_value rfl (run_move (v := .tuple #[.agg (mlCs mm ps cs pi ci).toArray, .int .i64 0]) rfl rfl) ?_
                simp only [Act.put, List.setIfInBounds_toArray, List.set_cons_zero, List.set_cons_succ]
                refine l_value rfl (run_ext (v := .agg (mlCs mm ps cs pi ci).toArray) rfl rfl (by kernel_rfl)) ?_
                simp only [Act.put, List.setIfInBounds_toArray, List.set_cons_zero, List.set_cons_succ]
                refine l_value rfl (run_ext (v := .int .i64 0) rfl rfl (by kernel_rfl)) ?_
                simp only [Act.put, List.setIfInBounds_toArray, List.set_cons_zero, List.set_cons_succ]
                refine l_value rfl (run_al49 rfl) ?_
                simp only [Act.put, List.setIfInBounds_toArray, List.set_cons_zero, List.set_cons_succ]
                have t13 := t12.alloc (.cells zeroC.toArray 49)
                have u13 := (Touch.refl Nothing w11).alloc (.cells zeroC.toArray 49)
                have b13 := heap_alloc_new w11 (.cells zeroC.toArray 49)
                have z13 := t12.size
                obtain ⟨h, eh⟩ : ∃ h, h = w11.heap.size := ⟨_, rfl⟩
                rw [← eh] at b13 z13 ⊢
                refine wpList_plain rfl fun _ hK => wp_st49 (g := h) (C := zeroC) (D := mlCs mm ps cs pi ci) rfl rfl rfl rfl rfl b13 (mlCs_all _ _ _ _ _) (fun w14 h14 t14 => hK _ _ ?_)
                clear hK
                simp only [Act.put, List.setIfInBounds_toArray, List.set_cons_zero, List.set_cons_succ]
                refine l_value rfl (run_asgn (v := .int .i64 0) rfl rfl) ?_
                simp only [Act.put, List.setIfInBounds_toArray, List.set_cons_zero, List.set_cons_succ]
                refine wpList_nil ?_
                have t15 : Touch Nothing w w14 := t13.trans t14 (fun i hi q => by omega)
                have u15 : Touch Nothing w11 w14 := u13.trans t14 (fun i hi q => by omega)
                have hM15 := hM12.keep u15 (fun _ _ q => q)
                have hR15 := hR12.touch u15 (fun q => q) (fun _ _ q => q)
                have hS15 := hS.keep u15
                have hI15 := hI.keep0 u15
                obtain ⟨gw, cw, ps2, cs2, pi2, ci2, ew, hrw, hS2, hI2⟩ := hM15.at hkV
                rw [← emm.out] at hrw hS2 hI2
                rw [← env.out] at ew
                cases ew
                have hSm := fun w' (t : Touch Nothing w14 w') => SameMail_any w' (.agg (mlCs mm ps cs pi ci).toArray) (.agg (mlCs mm ps2 cs2 pi2 ci2).toArray) mm ⟨ps, cs, pi, ci, rfl, hS15.keep t, hI15.keep0 t⟩ ⟨ps2, cs2, pi2, ci2, rfl, hS2.keep (t15.trans' t), hI2.keep0 (t15.trans' t)⟩ hmb.1 hmb.2
                replace t15 := Lib.hid t15
                replace hM15 := Lib.hid hM15
                replace hR15 := Lib.hid hR15
                replace hrw := Lib.hid hrw
                replace h14 := Lib.hid h14
                replace hSm := Lib.hid hSm
                replace eh := Lib.hid eh
                clear u15 hS15 hI15 hS2 hI2 t14 t13 u13 b13 z13 t12 hM12 hR12 hS hI hR6 ht6 hM6
                go_upto_region 33 with fail
                refine wp_region_held_drew (S := fun w' => Touch Nothing w14 w') (by kernel_rfl) ((Touch.refl Nothing w14).drew) (fun hS0 => ?_)
                refine d_value (i := 0) rfl (by kernel_rfl) (by kernel_rfl) (by kernel_rfl) rfl (fun _ _ _ h => h) (fun w9 hS => run_move (v := .int .i64 0) rfl rfl) hS0 ?_
                simp only [Act.put, List.setIfInBounds_toArray, List.set_cons_zero, List.set_cons_succ]
                refine d_value (i := 1) rfl (by kernel_rfl) (by kernel_rfl) (by kernel_rfl) rfl (fun _ _ _ h => h) (fun w9 hS => run_ne23 (b := false) (by rfl) rfl rfl rfl) hS0 ?_
                simp only [Act.put, List.setIfInBounds_toArray, List.set_cons_zero, List.set_cons_succ]
                refine d_value (i := 2) rfl (by kernel_rfl) (by kernel_rfl) (by kernel_rfl) rfl (fun _ _ _ h => h) (fun w9 hS => run_move (v := .bool false) rfl rfl) hS0 ?_
                simp only [Act.put, List.setIfInBounds_toArray, List.set_cons_zero, List.set_cons_succ]
                refine d_value (i := 3) rfl (by kernel_rfl) (by kernel_rfl) (by kernel_rfl) rfl (fun _ _ _ h => h) (fun w9 hS => run_move (v := .int .i64 (k2 : Int)) rfl rfl) hS0 ?_
                simp only [Act.put, List.setIfInBounds_toArray, List.set_cons_zero, List.set_cons_succ]
                refine d_value (i := 4) rfl (by kernel_rfl) (by kernel_rfl) (by kernel_rfl) rfl (fun _ _ _ h => h) (fun w9 hS => run_move (v := .slice (some ⟨gw, 0, none⟩) nv wq) rfl rfl) hS0 ?_
                simp only [Act.put, List.setIfInBounds_toArray, List.set_cons_zero, List.set_cons_succ]
                refine d_value (i := 5) rfl (by kernel_rfl) (by kernel_rfl) (by kernel_rfl) rfl (fun _ _ _ h => h) (fun w9 hS => run_len45 rfl rfl) hS0 ?_
                simp only [Act.put, List.setIfInBounds_toArray, List.set_cons_zero, List.set_cons_succ]
                refine d_value (i := 6) rfl (by kernel_rfl) (by kernel_rfl) (by kernel_rfl) rfl (fun _ _ _ h => h) (fun w9 hS => run_geq3 (b := false) (decide_eq_false (by omega)) rfl rfl rfl) hS0 ?_
                simp only [Act.put, List.setIfInBounds_toArray, List.set_cons_zero, List.set_cons_succ]
                refine d_value (i := 7) rfl (by kernel_rfl) (by kernel_rfl) (by kernel_rfl) rfl (fun _ _ _ h => h) (fun w9 hS => run_pickF (v := .bool false) rfl rfl rfl) hS0 ?_
                simp only [Act.put, List.setIfInBounds_toArray, List.set_cons_zero, List.set_cons_succ]
                refine d_value (i := 8) rfl (by kernel_rfl) (by kernel_rfl) (by kernel_rfl) rfl (fun _ _ _ h => h) (fun w9 hS => run_move (v := .bool false) rfl rfl) hS0 ?_
                simp only [Act.put, List.setIfInBounds_toArray, List.set_cons_zero, List.set_cons_succ]
                refine d_value (i := 9) rfl (by kernel_rfl) (by kernel_rfl) (by kernel_rfl) rfl (fun _ _ _ h => h) (fun w9 hS => run_loadR (cs := mlCs mm ps cs pi ci) rfl rfl (fun j u hu => hS.cell (range_blk h14.out j u hu) (fun q => q)) Try.underlying49 rfl (info49l _ _ _ _ _)) hS0 ?_
                simp only [Act.put, List.setIfInBounds_toArray, List.set_cons_zero, List.set_cons_succ]
                refine d_value (i := 10) rfl (by kernel_rfl) (by kernel_rfl) (by kernel_rfl) rfl (fun _ _ _ h => h) (fun w9 hS => run_move (v := .slice (some ⟨gw, 0, none⟩) nv wq) rfl rfl) hS0 ?_
                simp only [Act.put, List.setIfInBounds_toArray, List.set_cons_zero, List.set_cons_succ]
                refine d_value (i := 11) rfl (by kernel_rfl) (by kernel_rfl) (by kernel_rfl) rfl (fun _ _ _ h => h) (fun w9 hS => run_move (v := .int .i64 (k2 : Int)) rfl rfl) hS0 ?_
                simp only [Act.put, List.setIfInBounds_toArray, List.set_cons_zero, List.set_cons_succ]
                refine d_value (i := 12) rfl (by kernel_rfl) (by kernel_rfl) (by kernel_rfl) rfl (fun _ _ _ h => h) (fun w9 hS => run_ia45 k2 rfl rfl rfl hkv) hS0 ?_
                simp only [Act.put, List.setIfInBounds_toArray, List.set_cons_zero, List.set_cons_succ]
                refine d_value (i := 13) rfl (by kernel_rfl) (by kernel_rfl) (by kernel_rfl) rfl (fun _ _ _ h => h) (fun w9 hS => run_loadR (cs := mlCs mm ps2 cs2 pi2 ci2) rfl rfl (fun j u hu => hS.cell (hrw.out j u hu) (fun q => q)) Try.underlying49 rfl (info49l _ _ _ _ _)) hS0 ?_
                simp only [Act.put, List.setIfInBounds_toArray, List.set_cons_zero, List.set_cons_succ]
                refine d_call (args := #[.agg (mlCs mm ps cs pi ci).toArray, .agg (mlCs mm ps2 cs2 pi2 ci2).toArray]) (i := 14) (by kernel_rfl) rfl rfl cf24 rfl _ rfl #[] rfl rfl (hSm.out _ hS0) (fun _ t => hS0.trans' t) (fun wz tz => ?_)
                replace hS0 := hS0.trans' tz
                simp only [Act.put, List.setIfInBounds_toArray, List.set_cons_zero, List.set_cons_succ]
                refine d_value (i := 15) rfl (by kernel_rfl) (by kernel_rfl) (by kernel_rfl) rfl (fun _ _ _ h => h) (fun w9 hS => run_not (b := true) rfl rfl) hS0 ?_
                simp only [Act.put, List.setIfInBounds_toArray, List.set_cons_zero, List.set_cons_succ]
                refine d_value (i := 16) rfl (by kernel_rfl) (by kernel_rfl) (by kernel_rfl) rfl (fun _ _ _ h => h) (fun w9 hS => run_pickF (v := .bool false) rfl rfl rfl) hS0 ?_
                simp only [Act.put, List.setIfInBounds_toArray, List.set_cons_zero, List.set_cons_succ]
                refine wpAnyH_done (by kernel_rfl) ?_ _
                have hMz := hM15.out.keep hS0 (fun _ _ q => q)
                have hRz := hR15.out.touch hS0 (fun q => q) (fun _ _ q => q)
                have hTz := t15.out.trans' hS0
                replace hMz := Lib.hid hMz
                replace hRz := Lib.hid hRz
                replace hTz := Lib.hid hTz
                clear tz hS0 hSm hM15 hR15 t15 h14 hrw
                go_wp2
                exact ⟨⟨j + 1, k2 + 1, b3, sv6, by omega, by simp [ek2], by simp, hRz.out, hs7.out, hF5.out, hMz.out, hTz.out⟩, by simp [intOf]; omega⟩
              · have hNx := next_is hR2.out hnx
                replace hNx := Lib.hid hNx
                replace hnx := Lib.hid hnx
                replace hend := Lib.hid hend
                go_upto_region 30 with fail
                refine wp_region_list ?_
                refine l_value rfl (run_move (v := .pointer (some ⟨g, 0, none⟩)) rfl rfl) ?_
                simp only [Act.put, List.setIfInBounds_toArray, List.set_cons_zero, List.set_cons_succ]
                refine l_call (args := #[.pointer (some ⟨g, 0, none⟩)]) rfl cf16 rfl _ rfl #[] rfl rfl hNx.out (fun w7 t7 => ?_)
                simp only [Act.put, List.setIfInBounds_toArray, List.set_cons_zero, List.set_cons_succ]
                refine l_value rfl (run_move (v := .tuple #[.string ⟨([] : List UInt8).toArray⟩, .bool false]) rfl rfl) ?_
                simp only [Act.put, List.setIfInBounds_toArray, List.set_cons_zero, List.set_cons_succ]
                refine l_value rfl (run_ext (v := .string ⟨([] : List UInt8).toArray⟩) rfl rfl (by kernel_rfl)) ?_
                simp only [Act.put, List.setIfInBounds_toArray, List.set_cons_zero, List.set_cons_succ]
                refine l_value rfl (run_ext (v := .bool false) rfl rfl (by kernel_rfl)) ?_
                simp only [Act.put, List.setIfInBounds_toArray, List.set_cons_zero, List.set_cons_succ]
                refine l_value rfl (run_asgn (v := .string ⟨([] : List UInt8).toArray⟩) rfl rfl) ?_
                simp only [Act.put, List.setIfInBounds_toArray, List.set_cons_zero, List.set_cons_succ]
                refine l_value rfl (run_asgn (v := .bool false) rfl rfl) ?_
                simp only [Act.put, List.setIfInBounds_toArray, List.set_cons_zero, List.set_cons_succ]
                refine wpList_nil ?_
                clear hNx
                obtain ⟨sv6, hR6, t6, hs6⟩ := t7
                have ht6 : Touch Nothing w w7 := ht5.out.trans t6 (fun j hj q => by
                  rcases q with q | q
                  · omega
                  · have := hs2.out j q; omega)
                have hM6 := hM5.out.keep t6 (fun b hb q => by
                  have := hwb.out b hb
                  rcases q with q | q
                  · omega
                  · have := hs2.out b q; omega)
                have hs7 : ∀ j, sv6.ownBlock = some j → g < j := fun j hj => by
                  rcases hs6 j hj with q | q
                  · exact hs2.out j q
                  · have := (rd_lt hR2.out).1; omega
                replace hR6 := Lib.hid hR6
                replace ht6 := Lib.hid ht6
                replace hM6 := Lib.hid hM6
                replace hs7 := Lib.hid hs7
                clear t6 hs6 hR2 hs2 hM5 ht5
                go_wp2
                refine ⟨?_, by simp [intOf]; omega⟩
                (repeat apply Exists.intro)
                exact ⟨⟨i2 + 1, k2, x2, b2, sv6, rfl, rfl, rfl, hR6.out, hs7.out, hF3.out, hend.out, hM6.out, ht6.out, by omega, hz2.out⟩, rfl⟩
        · refine wp_region_list ?_
          have hx0 : tx x = [] := List.eq_nil_of_length_eq_zero (by rw [tx_len]; omega)
          obtain ⟨ek, eb⟩ := hFe.out hx0
          rw [List.length_map, ← env.out] at ek
          subst eb ek
          clear hFe hF hsv hx0
          refine l_value rfl (run_move (v := .string x) rfl rfl) ?_
          simp only [Act.put, List.setIfInBounds_toArray, List.set_cons_zero, List.set_cons_succ]
          refine l_value rfl (run_len9 (s := x) rfl rfl) ?_
          simp only [Act.put, List.setIfInBounds_toArray, List.set_cons_zero, List.set_cons_succ]
          refine l_value rfl (run_gtr3 (b := false) (decide_eq_false (by omega)) rfl rfl rfl) ?_
          simp only [Act.put, List.setIfInBounds_toArray, List.set_cons_zero, List.set_cons_succ]
          refine wpList_nil ?_
          go_upto_region 37 with fail
          refine wp_region_list ?_
          refine l_value rfl (run_move (v := .int .i64 (k : Int)) rfl rfl) ?_
          simp only [Act.put, List.setIfInBounds_toArray, List.set_cons_zero, List.set_cons_succ]
          refine l_value rfl (run_move (v := .slice wp k wq) rfl rfl) ?_
          simp only [Act.put, List.setIfInBounds_toArray, List.set_cons_zero, List.set_cons_succ]
          refine l_value rfl (run_len45 rfl rfl) ?_
          simp only [Act.put, List.setIfInBounds_toArray, List.set_cons_zero, List.set_cons_succ]
          refine l_value rfl (run_eq3 (b := true) (m := (k : Int)) (n := (k : Int)) (by simp) rfl rfl rfl) ?_
          simp only [Act.put, List.setIfInBounds_toArray, List.set_cons_zero, List.set_cons_succ]
          refine l_value rfl (run_move (v := .bool true) rfl rfl) ?_
          simp only [Act.put, List.setIfInBounds_toArray, List.set_cons_zero, List.set_cons_succ]
          refine BigFrame.wpList_want (by kernel_rfl) (fun _ hK => wp_value (run_move rfl rfl) (hK _ _ ?_))
          clear hK
          simp only [Act.put, List.setIfInBounds_toArray, List.set_cons_zero, List.set_cons_succ]
          refine BigFrame.wpList_want (by kernel_rfl) (fun K hK => wp_callf (args := #[.pointer (some ⟨g, 0, none⟩)]) (v := .int .i64 0) cf15 rfl _ rfl #[] rfl rfl (waits_zero hR.out) (fun w7 t7 => hK _ _ ?_))
          clear hK K
          simp only [Act.put, List.setIfInBounds_toArray, List.set_cons_zero, List.set_cons_succ]
          refine BigFrame.wpList_want (by kernel_rfl) (fun _ hK => wp_value (run_eq3 (b := true) (m := 0) (n := 0) (by rfl) rfl rfl rfl) (hK _ _ ?_))
          clear hK
          simp only [Act.put, List.setIfInBounds_toArray, List.set_cons_zero, List.set_cons_succ]
          refine l_value rfl (run_pickT (v := .bool true) rfl rfl rfl) ?_
          simp only [Act.put, List.setIfInBounds_toArray, List.set_cons_zero, List.set_cons_succ]
          refine l_value rfl (run_asgn (v := .bool true) rfl rfl) ?_
          simp only [Act.put, List.setIfInBounds_toArray, List.set_cons_zero, List.set_cons_succ]
          refine wpList_nil ?_
          obtain ⟨nq, rfl⟩ := t7
          have ht9 := (ht.out.drewN nq).toBelow0 (fun k _ q => q)
          replace ht9 := Lib.hid ht9
          go_wp2
          go_ret
          exact ⟨rfl, ht9.out⟩

end Go.Proofs.Ytoegkcjclgmnbaa
