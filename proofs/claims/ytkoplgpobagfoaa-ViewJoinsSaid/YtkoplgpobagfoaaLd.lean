/-
  Layer 27: lend and kept, walked.
-/
import Derived.Test.YtkoplgpobagfoaaVv
import Derived.Test.YtkoplgpobagfoaaVh
namespace Go.Proofs.Ytkoplgpobagfoaa
open Go.RowKit
set_option linter.unusedVariables false
set_option linter.unusedSimpArgs false

def mark : Fr := ⟨-77, 0, 0, 0⟩

theorem run_mark {a : Act} {w : World} {op : Oper} (ho : op.op = .build 50 #[(0, .const (.int .i64 (-77)))]) : (execOp a.eval op).run Try.prog w = .ok (.value (frV mark)) w := by
  have h : (Instr.build 50 #[(0, .int .i64 (-77))]).run Try.prog w = .ok (frV mark) w := by kernel_rfl
  have e : a.eval (.const (.int .i64 (-77))) = .int .i64 (-77) := rfl
  unfold execOp
  simp only [ho, List.map_toArray, List.map_cons, List.map_nil, e, Sem.run_bind, h, Result.andThen_ok, Sem.run_pure]

/-- A copy with room behind its end, marked. -/
def Lent (w : World) (g c : Nat) (L : List Fr) : Prop := RowF w g (L ++ [mark]) ∧ L.length + 1 ≤ c

theorem Lent.keep {F : Nat → Prop} {w w' : World} {g c : Nat} {L : List Fr} (h : Lent w g c L) (ht : Touch F w w') (hf : ¬ F g) : Lent w' g c L := ⟨h.1.keep ht hf, h.2⟩

theorem RowF.left {w : World} {g : Nat} {L M : List Fr} (h : RowF w g (L ++ M)) : RowF w g L := by
  obtain ⟨ex, hg⟩ := h
  exact ⟨flat M ++ ex, by rw [hg, flat_append, List.append_assoc]⟩

theorem Lent.sl {w : World} {g c : Nat} {L : List Fr} (h : Lent w g c L) : FrSl w (some ⟨g, 0, none⟩) c L := h.1.left.sl (by have := h.2; omega)
theorem Lent.toA {w : World} {g c : Nat} {L : List Fr} (h : Lent w g c L) : FrA w (.slice (some ⟨g, 0, none⟩) L.length c) L := .inr ⟨_, c, rfl, h.sl⟩

set_option maxRecDepth 100000 in
theorem lend_any (w : World) (v : Value) (L : List Fr) (h : FrA w v L) (hl : L.length * 32 ≤ 140737488351232) :
    Calls Try.prog 11 #[v] w fun r w' => ∃ g c, r = .returned (.slice (some ⟨g, 0, none⟩) L.length c) ∧ Lent w' g c L ∧ w.heap.size ≤ g ∧ Touch Nothing w w' := by
  obtain ⟨p0, c0, hv, hsl⟩ := h.sl
  replace h := Lib.hid h
  go_enter Try.func11, Try.ntmps11
  go_upto_region 1 with fail
  refine wp_region_list ?_
  refine l_value rfl (run_bs0 rfl) ?_
  simp only [Act.put, List.setIfInBounds_toArray, List.set_cons_zero, List.set_cons_succ]
  refine l_value rfl (run_move (v := v) rfl rfl) ?_
  simp only [Act.put, List.setIfInBounds_toArray, List.set_cons_zero, List.set_cons_succ]
  have hE := OwnF.empty w w (Nat.le_refl _)
  have t0 := (Touch.refl Nothing w).alloc (.cells #[] 50)
  refine wpList_plain rfl fun K hK => wp_appS (L := []) (M := L) _ _ rfl rfl hE rfl (h.out.keep t0 (fun _ _ _ _ _ q => q)) t0 (by simp only [List.length_nil]; omega) (fun v1 w1 hO1 t1 _ => hK _ _ ?_)
  simp only [Act.put, List.setIfInBounds_toArray, List.set_cons_zero, List.set_cons_succ]
  clear hK K
  refine l_value rfl (run_asgn (v := v1) rfl rfl) ?_
  simp only [Act.put, List.setIfInBounds_toArray, List.set_cons_zero, List.set_cons_succ]
  refine wpList_nil ?_
  go_upto_region 2 with fail
  refine wp_region_list ?_
  refine l_value rfl (run_move (v := v1) rfl rfl) ?_
  simp only [Act.put, List.setIfInBounds_toArray, List.set_cons_zero, List.set_cons_succ]
  refine l_value rfl (run_mark rfl) ?_
  simp only [Act.put, List.setIfInBounds_toArray, List.set_cons_zero, List.set_cons_succ]
  refine l_value rfl (run_bs22 (f := mark) rfl rfl) ?_
  simp only [Act.put, List.setIfInBounds_toArray, List.set_cons_zero, List.set_cons_succ]
  have hg := heap_new w1 (.cells (frCs mark).toArray 50)
  have ta := (Touch.refl Nothing w1).alloc (.cells (frCs mark).toArray 50)
  rw [List.nil_append] at hO1
  refine wpList_plain rfl fun K hK => wp_app1 (L := L) _ _ rfl rfl (hO1.keep ta) rfl hg (t1.trans' ta) (by omega) (fun v2 w2 hO2 t2 _ => hK _ _ ?_)
  simp only [Act.put, List.setIfInBounds_toArray, List.set_cons_zero, List.set_cons_succ]
  clear hK K
  refine l_value rfl (run_asgn (v := v2) rfl rfl) ?_
  simp only [Act.put, List.setIfInBounds_toArray, List.set_cons_zero, List.set_cons_succ]
  refine wpList_nil ?_
  rcases hO2.row with ⟨_, hn⟩ | ⟨g, c, rfl, hR, hc, hgw⟩
  · simp at hn
  rw [List.length_append] at hc ⊢
  have hc2 : L.length + 1 ≤ c := by simpa using hc
  have hh := Lib.hid (And.intro (show Lent w2 g c L from ⟨hR, hc2⟩) (And.intro hgw t2))
  have e1 : (L.length : Int) ≤ (c : Int) := by omega
  have e2 : (0 : Int) ≤ (L.length : Int) := by omega
  obtain ⟨n, hn⟩ : ∃ n, n = L.length := ⟨_, rfl⟩
  subst hv
  clear hO1 hO2 hR t0 t1 t2 ta hg hE hc hsl
  go_wp2
  go_ret
  exact ⟨g, c, rfl, hh.out.1, hh.out.2.1, hh.out.2.2⟩

theorem Lent.mark {w : World} {g c : Nat} {L : List Fr} (h : Lent w g c L) : w.rangeAt g (L.length * 4) (frCs mark) := by
  have hs := h.1.sl (c := c) (by rw [List.length_append]; exact h.2)
  obtain ⟨g', o', e, hr⟩ := hs.2 L.length (by simp)
  cases e
  rw [Nat.zero_add] at hr
  simpa using hr

set_option maxRecDepth 100000 in
theorem kept_any (w : World) (v : Value) (L : List Fr) (g c : Nat) (hL : Lent w g c L) (h : FrA w v L) (hl : L.length ≤ 4611686018427387904) :
    Calls Try.prog 16 #[.slice (some ⟨g, 0, none⟩) L.length c, v] w fun r w' => r = .returned (.bool true) ∧ Touch Nothing w w' := by
  obtain ⟨p, d, rfl, hs⟩ := h.sl
  have hS := Lib.hid (same_any w (some ⟨g, 0, none⟩) p c d L L hL.sl hs hl true (by simp))
  have hm := Lib.hid hL.mark
  have e1 : (0 : Int) ≤ (L.length : Int) + 1 := by omega
  have e2 : (L.length : Int) + 1 ≤ (c : Int) := by have := hL.2; omega
  have e3 : IntKind.i64.wrap ((L.length : Int) + 1) = (L.length : Int) + 1 := by rw [IntKind.wrap_i64]; omega
  have e4 : (0 : Int) ≤ (L.length : Int) := by omega
  have e5 : (L.length : Int) < (L.length : Int) + 1 := by omega
  have kG := fun w => run_gF w .eql (.tmp 17) (.tmp 18) mark mark
  have kE := fun w => run_eqF w mark mark
  rw [decide_eq_true rfl] at kE
  unfold frV mark at kG kE
  simp only [] at kG kE
  obtain ⟨n, hn⟩ : ∃ n, n = L.length := ⟨_, rfl⟩
  rw [← hn] at hS hm e1 e2 e3 e4 e5 ⊢
  clear hL h hs hl hn
  go_enter Try.func16, Try.ntmps16
  go_wp2_with (go_at_call 20; refine hS.out.mono ?_; rintro r w1 ⟨rfl, t1⟩; obtain ⟨c0, c1, c2, c3⟩ := fr_cells (range_keep hm.out t1 (fun q => q)))
  go_ret
  exact ⟨rfl, t1⟩

end Go.Proofs.Ytkoplgpobagfoaa
