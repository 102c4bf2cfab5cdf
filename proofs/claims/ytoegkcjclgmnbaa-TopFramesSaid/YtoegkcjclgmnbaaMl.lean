/-
  Layer 11 (mail): one slot is taken up in Decode. Printed by mkml.py.
-/
import Derived.Test.YtoegkcjclgmnbaaMk
import Derived.Test.YtoegkcjclgmnbaaStage
namespace Go.Proofs.Ytoegkcjclgmnbaa
open Go.RowKit
set_option linter.unusedVariables false
set_option linter.unusedSimpArgs false

section
variable {a : Act} {w : World} {op : Oper} {Q : Exit → Act → World → Prop} {md : Region.Mode} {ops : Array Oper} {S : World → Prop} {f : Nat} {l : Array Bool}
theorem g_read {i : Nat} {v : Value} {tl : List Oper} (hi : ops.toList.drop i = op :: tl) (hs : Region.noSelect ops = true) (hf : Region.free md ops l i = true) (hr : (Region.ready md ops l).contains i = true)
    (hwt : waitB md ops i = true) (hn : noStB ops l = true) (hw : Region.wanted op (yielded ops a.tmps) = true) (hQ : ∀ c a w, Q (.panic c) (a.put op.dst v) w → Q (.panic c) a w) (h : ∀ w, S w → (execOp a.eval op).run Try.prog w = .ok (.value v) w) (hS : S w)
    (k : AnyG Try.prog md ops Q S f (l.setIfInBounds i true) (a.put op.dst v) w) : AnyG Try.prog md ops Q S (f + 1) l a w :=
  AnyG.read (op_at hi) hs hf hr hwt hn hQ (Or.inl ⟨hw, h⟩) hS k
theorem g_pure {i : Nat} {v : Value} {tl : List Oper} (hi : ops.toList.drop i = op :: tl) (hs : Region.noSelect ops = true) (hf : Region.free md ops l i = true) (hr : (Region.ready md ops l).contains i = true)
    (hst : storeAt ops i = false) (hw : Region.wanted op (yielded ops a.tmps) = true) (hQ : ∀ c a w, Q (.panic c) (a.put op.dst v) w → Q (.panic c) a w) (h : ∀ w, (execOp a.eval op).run Try.prog w = .ok (.value v) w) (hS : noSt ops l → S w)
    (k : AnyG Try.prog md ops Q S f (l.setIfInBounds i true) (a.put op.dst v) w) : AnyG Try.prog md ops Q S (f + 1) l a w :=
  AnyG.pure (op_at hi) hs hf hr hst hQ (Or.inl ⟨hw, fun w _ => h w⟩) hS k
theorem g_store {i : Nat} {tl : List Oper} (hr : Region.ready md ops l = [i]) (hst : (storeAt ops i && decide (i < l.size)) = true) (hi : ops.toList.drop i = op :: tl) (hw : Region.wanted op (yielded ops a.tmps) = true)
    (h : ∀ K : Act → World → Prop, (∀ a w, AnyG Try.prog md ops Q S f (l.setIfInBounds i true) a w → K a w) → op.wp Try.prog a w K Q) : AnyG Try.prog md ops Q S (f + 1) l a w :=
  AnyG.store hr hst (op_at hi) fun K hK => by
    rw [if_pos hw]
    exact h K fun a w q => hK a w q
theorem g_one {i : Nat} {tl : List Oper} (hr : Region.ready md ops l = [i]) (hi : ops.toList.drop i = op :: tl) (hw : Region.wanted op (yielded ops a.tmps) = true)
    (h : ∀ K : Act → World → Prop, (∀ a w, S w → AnyG Try.prog md ops Q S f (l.setIfInBounds i true) a w → K a w) → op.wp Try.prog a w K Q) : AnyG Try.prog md ops Q S (f + 1) l a w :=
  AnyG.one hr (op_at hi) fun K hK => by
    rw [if_pos hw]
    exact h K fun a w hS q => hK a w (fun _ => hS) q
theorem run_frontT {x y : Operand} {s : List UInt8} {n : Nat} {t : ByteArray} (ht : (⟨(s.take n).toArray⟩ : ByteArray) = t) (ho : op.op = .slice 9 x none (some y) none) (hx : a.eval x = .string ⟨s.toArray⟩) (hy : a.eval y = .int .i64 (n : Int)) (hn : n ≤ s.length) :
    (execOp a.eval op).run Try.prog w = .ok (.value (.string t)) w := by
  rw [← ht]
  exact run_front ho hx hy hn
end

theorem Dc.sl5 {w w1 : World} {g : Nat} {r : List UInt8} {k u q : Int} {tg : ByteArray} {sv iv : Value} {S : List (ByteArray × ByteArray)} {I : List ByteArray} (h : Dc w g w1 r k u q tg sv iv S I) : ∃ p n c, sv = .slice p n c := by
  obtain ⟨p, c, e, _⟩ := h.oS.sl
  exact ⟨p, _, c, e⟩
theorem OwnS.isSl {B : Nat} {w : World} {v : Value} {L : List (ByteArray × ByteArray)} (h : OwnS B w v L) : ∃ p n c, v = .slice p n c := by
  obtain ⟨p, c, e, _⟩ := h.sl
  exact ⟨p, _, c, e⟩
theorem OwnT.isSl {B : Nat} {w : World} {v : Value} {L : List ByteArray} (h : OwnT B w v L) : ∃ p n c, v = .slice p n c := by
  obtain ⟨p, c, e, _⟩ := h.sl
  exact ⟨p, _, c, e⟩

noncomputable def reg23 (n : Nat) : Code := (Try.f23.body.bind (regAt n)).getD .skip

set_option maxRecDepth 1000000 in
set_option maxHeartbeats 6400000 in
theorem app_step (w wr : World) (g : Nat) {r : List UInt8} {k u q : Int} {tg : ByteArray} {sv iv : Value} {S : List (ByteArray × ByteArray)} {I : List ByteArray} (h : Dc w g wr r k u q tg sv iv S I) (x : ByteArray × ByteArray) (l : List UInt8)
    (hl : x.2.size ≤ l.length) (hn : x.2.size ≤ 222) (hx : (⟨(l.take x.2.size).toArray⟩ : ByteArray) = x.2) (hS : S.length ≤ 8)
    {z0 z1 z2 z3 z4 z6 z7 z11 z12 z13 z14 z15 z16 z17 z18 z19 z20 z21 z22 z23 z24 z25 z26 z27 z28 z29 z30 z31 z32 z33 z34 z35 z36 z37 z38 z39 z40 z41 z42 z43 z44 z45 z46 z47 z48 z49 z50 z51 z52 z53 z54 z55 z56 z57 z58 z59 z60 z61 z62 z63 z64 z65 z66 z67 z68 z69 z70 z71 z72 z73 z74 z75 z76 z77 z78 z79 z80 z81 z82 z83 z84 z85 z86 z87 z88 z89 z90 z91 z92 z93 z94 z95 z96 z97 z98 z99 z100 z101 z102 z103 z104 z105 z106 : Value} {Q : Exit → Act → World → Prop} (hP : ∀ c (a : Act) (w : World) d v, Q (.panic c) (a.put d v) w → Q (.panic c) a w)
    (hQ : ∀ (W' : World) (sv' y73 y74 y75 y76 y77 y78 y79 y80 y81 y82 y83 : Value), Dc w g W' r k u q tg sv' iv (S ++ [x]) I → Q .normal ⟨List.toArray (z0 :: z1 :: z2 :: z3 :: z4 :: .pointer (some ⟨g + 2, 0, none⟩) :: z6 :: z7 :: .string x.1 :: .int .i64 (x.2.size : Int) :: .string ⟨l.toArray⟩ :: z11 :: z12 :: z13 :: z14 :: z15 :: z16 :: z17 :: z18 :: z19 :: z20 :: z21 :: z22 :: z23 :: z24 :: z25 :: z26 :: z27 :: z28 :: z29 :: z30 :: z31 :: z32 :: z33 :: z34 :: z35 :: z36 :: z37 :: z38 :: z39 :: z40 :: z41 :: z42 :: z43 :: z44 :: z45 :: z46 :: z47 :: z48 :: z49 :: z50 :: z51 :: z52 :: z53 :: z54 :: z55 :: z56 :: z57 :: z58 :: z59 :: z60 :: z61 :: z62 :: z63 :: z64 :: z65 :: z66 :: z67 :: z68 :: z69 :: z70 :: z71 :: z72 :: y73 :: y74 :: y75 :: y76 :: y77 :: y78 :: y79 :: y80 :: y81 :: y82 :: y83 :: z84 :: z85 :: z86 :: z87 :: z88 :: z89 :: z90 :: z91 :: z92 :: z93 :: z94 :: z95 :: z96 :: z97 :: z98 :: z99 :: z100 :: z101 :: z102 :: z103 :: z104 :: z105 :: z106 :: []), []⟩ W') :
    Code.wp Try.prog (reg23 23) Q ⟨List.toArray (z0 :: z1 :: z2 :: z3 :: z4 :: .pointer (some ⟨g + 2, 0, none⟩) :: z6 :: z7 :: .string x.1 :: .int .i64 (x.2.size : Int) :: .string ⟨l.toArray⟩ :: z11 :: z12 :: z13 :: z14 :: z15 :: z16 :: z17 :: z18 :: z19 :: z20 :: z21 :: z22 :: z23 :: z24 :: z25 :: z26 :: z27 :: z28 :: z29 :: z30 :: z31 :: z32 :: z33 :: z34 :: z35 :: z36 :: z37 :: z38 :: z39 :: z40 :: z41 :: z42 :: z43 :: z44 :: z45 :: z46 :: z47 :: z48 :: z49 :: z50 :: z51 :: z52 :: z53 :: z54 :: z55 :: z56 :: z57 :: z58 :: z59 :: z60 :: z61 :: z62 :: z63 :: z64 :: z65 :: z66 :: z67 :: z68 :: z69 :: z70 :: z71 :: z72 :: z73 :: z74 :: z75 :: z76 :: z77 :: z78 :: z79 :: z80 :: z81 :: z82 :: z83 :: z84 :: z85 :: z86 :: z87 :: z88 :: z89 :: z90 :: z91 :: z92 :: z93 :: z94 :: z95 :: z96 :: z97 :: z98 :: z99 :: z100 :: z101 :: z102 :: z103 :: z104 :: z105 :: z106 :: []), []⟩ wr := by
  conv => arg 2; whnf
  replace hQ := Lib.hid hQ
  have hD := h.keep (w2 := wr.drew) ((Touch.refl Nothing wr).drew)
  have hS0 := hD.k5
  refine wp_region_stage (S := fun w9 => w9.cell? ⟨g + 2, 5, none⟩ = some sv) (by kernel_rfl) ?_
  refine g_pure (i := 0) rfl (by kernel_rfl) (by kernel_rfl) (by kernel_rfl) (by kernel_rfl) rfl (fun _ _ _ h => hP _ _ _ _ _ h) (fun w9 => run_f49 5 rfl rfl (by decide)) (fun _ => hS0) ?_
  simp only [Act.put, List.setIfInBounds_toArray, List.set_cons_zero, List.set_cons_succ]
  refine g_read (i := 1) rfl (by kernel_rfl) (by kernel_rfl) (by kernel_rfl) (by kernel_rfl) (by kernel_rfl) rfl (fun _ _ _ h => hP _ _ _ _ _ h) (fun w9 hS => run_ld47 rfl rfl hS) hS0 ?_
  simp only [Act.put, List.setIfInBounds_toArray, List.set_cons_zero, List.set_cons_succ]
  refine g_pure (i := 2) rfl (by kernel_rfl) (by kernel_rfl) (by kernel_rfl) (by kernel_rfl) rfl (fun _ _ _ h => hP _ _ _ _ _ h) (fun w9 => run_move (v := .string x.1) rfl rfl) (fun _ => hS0) ?_
  simp only [Act.put, List.setIfInBounds_toArray, List.set_cons_zero, List.set_cons_succ]
  refine g_pure (i := 3) rfl (by kernel_rfl) (by kernel_rfl) (by kernel_rfl) (by kernel_rfl) rfl (fun _ _ _ h => hP _ _ _ _ _ h) (fun w9 => run_move (v := .string ⟨l.toArray⟩) rfl rfl) (fun _ => hS0) ?_
  simp only [Act.put, List.setIfInBounds_toArray, List.set_cons_zero, List.set_cons_succ]
  refine g_pure (i := 4) rfl (by kernel_rfl) (by kernel_rfl) (by kernel_rfl) (by kernel_rfl) rfl (fun _ _ _ h => hP _ _ _ _ _ h) (fun w9 => run_move (v := .int .i64 (x.2.size : Int)) rfl rfl) (fun _ => hS0) ?_
  simp only [Act.put, List.setIfInBounds_toArray, List.set_cons_zero, List.set_cons_succ]
  refine g_pure (i := 5) rfl (by kernel_rfl) (by kernel_rfl) (by kernel_rfl) (by kernel_rfl) rfl (fun _ _ _ h => hP _ _ _ _ _ h) (fun w9 => run_min (n := x.2.size) rfl rfl hn) (fun _ => hS0) ?_
  simp only [Act.put, List.setIfInBounds_toArray, List.set_cons_zero, List.set_cons_succ]
  refine g_pure (i := 6) rfl (by kernel_rfl) (by kernel_rfl) (by kernel_rfl) (by kernel_rfl) rfl (fun _ _ _ h => hP _ _ _ _ _ h) (fun w9 => run_frontT (s := l) (n := x.2.size) hx rfl rfl rfl hl) (fun _ => hS0) ?_
  simp only [Act.put, List.setIfInBounds_toArray, List.set_cons_zero, List.set_cons_succ]
  refine g_pure (i := 7) rfl (by kernel_rfl) (by kernel_rfl) (by kernel_rfl) (by kernel_rfl) rfl (fun _ _ _ h => hP _ _ _ _ _ h) (fun w9 => run_bld74 (i := x.1) (t := x.2) rfl rfl rfl) (fun _ => hS0) ?_
  simp only [Act.put, List.setIfInBounds_toArray, List.set_cons_zero, List.set_cons_succ]
  have hB := hD.keep ((Touch.refl Nothing wr.drew).alloc (.cells (slC x).toArray 74))
  have hg := heap_alloc_new wr.drew (.cells (slC x).toArray 74)
  refine g_one (i := 8) (by kernel_rfl) rfl rfl (fun K hK => wp_value (run_bs47 (y := x) rfl rfl) (hK _ _ hB.k5 ?_))
  clear hK K
  simp only [Act.put, List.setIfInBounds_toArray, List.set_cons_zero, List.set_cons_succ]
  obtain ⟨w2, e2⟩ : ∃ v, v = wr.drew.alloc (.cells (slC x).toArray 74) := ⟨_, rfl⟩
  obtain ⟨g2, eg2⟩ : ∃ v, v = wr.drew.heap.size := ⟨_, rfl⟩
  rw [← e2, ← eg2] at hg
  rw [← e2] at hB
  rw [← e2, ← eg2]
  refine g_one (i := 9) (by kernel_rfl) rfl rfl (fun K hK => wp_appS (B := g + 3) (v := sv) (L := S) (y := x) (g := g2) _ _ rfl rfl hB.oS rfl hg hB.sz (by omega) (fun v' w' ho ht => ?_))
  have h5 : w'.heap[g + 2]? = some (.cells (mC k u q e0 tg sv iv).toArray 49 (0, 0)) := ht.heap hB.h5 (fun q => by have := hB.oS.2 _ q; omega)
  refine hK _ _ (cell_at h5 5) ?_
  clear hK K
  simp only [Act.put, List.setIfInBounds_toArray, List.set_cons_zero, List.set_cons_succ]
  refine g_pure (i := 10) rfl (by kernel_rfl) (by kernel_rfl) (by kernel_rfl) (by kernel_rfl) rfl (fun _ _ _ h => hP _ _ _ _ _ h) (fun w9 => run_f49 5 rfl rfl (by decide)) (fun _ => cell_at h5 5) ?_
  simp only [Act.put, List.setIfInBounds_toArray, List.set_cons_zero, List.set_cons_succ]
  refine g_store (i := 11) (by kernel_rfl) (by kernel_rfl) rfl rfl (fun K hK => wp_skip (run_st47 rfl rfl rfl ho.isSl (cell_at h5 5) (frz_blk h5 5)) (hK _ _ ?_))
  clear hK K
  simp only [Act.put, List.setIfInBounds_toArray, List.set_cons_zero, List.set_cons_succ]
  refine AnyG.done (by kernel_rfl) ?_ _
  exact hQ.out _ _ _ _ _ _ _ _ _ _ _ _ _ (hB.setS ht ho)

end Go.Proofs.Ytoegkcjclgmnbaa
