/-
  Layer 27: Clone, and the stable sort of a short row, walked.
-/
import Derived.Test.YtkoplgpobagfoaaVu
namespace Go.Proofs.Ytkoplgpobagfoaa
open Go.RowKit
set_option linter.unusedVariables false
set_option linter.unusedSimpArgs false

/-- A slice of frames that came in: nil, or one that reads as these. -/
def FrA (w : World) (v : Value) (L : List Fr) : Prop := (v = .slice none 0 0 ∧ L = []) ∨ ∃ (p : Addr) (c : Nat), v = .slice (some p) L.length c ∧ FrSl w (some p) c L

theorem FrA.sl {w : World} {v : Value} {L : List Fr} (h : FrA w v L) : ∃ p c, v = .slice p L.length c ∧ FrSl w p c L := by
  rcases h with ⟨rfl, rfl⟩ | ⟨p, c, rfl, hs⟩
  · exact ⟨none, 0, rfl, Nat.zero_le _, fun i hi => by simp at hi⟩
  · exact ⟨_, c, rfl, hs⟩

theorem FrA.keep {F : Nat → Prop} {w w' : World} {v : Value} {L : List Fr} (h : FrA w v L) (ht : Touch F w w') (hf : ∀ g o n c, v = .slice (some ⟨g, o, none⟩) n c → ¬ F g) : FrA w' v L := by
  rcases h with h | ⟨p, c, rfl, hs⟩
  · exact .inl h
  · exact .inr ⟨p, c, rfl, hs.1, fun i hi => by obtain ⟨g, o, e, hr⟩ := hs.2 i hi; exact ⟨g, o, e, range_keep hr ht (hf g o _ c (by cases e; rfl))⟩⟩

theorem FrA.src {w : World} {v : Value} {L : List Fr} (h : FrA w v L) : Src w v L.length 4 (flat L) := by
  rcases h with ⟨rfl, rfl⟩ | ⟨p, c, rfl, hs⟩
  · exact .inl ⟨rfl, rfl, rfl⟩
  · refine .inr ⟨_, c, rfl, flat_len L, fun j u hu => ?_, flat_one_cell L⟩
    have hj : j < L.length * 4 := by rw [← flat_len]; exact (List.getElem?_eq_some_iff.1 hu).1
    have hi : j / 4 < L.length := by omega
    obtain ⟨g, o, e, hr⟩ := hs.2 (j / 4) hi
    cases e
    have e2 : j = j / 4 * 4 + j % 4 := by omega
    rw [e2, flat_at L (j / 4) (j % 4) hi (by omega)] at hu
    have := hr (j % 4) u hu
    have e3 : (⟨g, o, none⟩ : Addr).add j = ⟨g, o + j / 4 * 4 + j % 4, none⟩ := by rw [Addr.add_mid]; congr 1; omega
    rw [e3]
    exact this

theorem OwnF.row {w0 w : World} {v : Value} {L : List Fr} (h : OwnF w0 w v L) : (v = .slice none 0 0 ∧ L = []) ∨ ∃ g c, v = .slice (some ⟨g, 0, none⟩) L.length c ∧ RowF w g L ∧ L.length ≤ c ∧ w0.heap.size ≤ g := by
  rcases h.1.2 with ⟨hv, h0⟩ | ⟨g, cap, cur, hv, _, hg, hnc, _, hcs, htk⟩
  · exact .inl ⟨hv, List.eq_nil_of_length_eq_zero h0⟩
  · refine .inr ⟨g, cap, hv, ⟨cur.toList.drop (L.length * 4), ?_⟩, hnc, h.2 g (by rw [hv]; rfl)⟩
    rw [hg, ← htk, List.take_append_drop]

theorem OwnF.toA {w0 w : World} {v : Value} {L : List Fr} (h : OwnF w0 w v L) : FrA w v L := by
  rcases h.row with h | ⟨g, c, hv, hr, hc, _⟩
  · exact .inl h
  · exact .inr ⟨_, c, hv, hr.sl hc⟩

/-- append of frames that are read to a row of one's own. -/
theorem wp_appS {o : Oper} {a : Act} {w w0 : World} {K : Act → World → Prop} {Q : Exit → Act → World → Prop} (s x : Operand)
    (ho : o.op = .call { callee := .builtin .append, args := #[s, x], argTypes := #[22, 22] }) {v y : Value} {L M : List Fr} (hs : a.eval s = v) (hO : OwnF w0 w v L) (hx : a.eval x = y) (hy : FrA w y M)
    (ht : Touch Nothing w0 w) (hn : (L.length + M.length) * 32 ≤ 140737488355328)
    (k : ∀ v' w', OwnF w0 w' v' (L ++ M) → Touch Nothing w0 w' → Touch (fun b => v.ownBlock = some b) w w' → K (a.put o.dst v') w') : o.wp Try.prog a w K Q := by
  refine wp_app elt50 s x ho hs hO.1 hx hy.src rfl (zs := flat (L ++ M)) (by rw [flat_append]) (by unfold maxLen; omega) hn ?_
  intro v' w' ho' hgr hor
  have t' := ht.grown hgr (fun b hb q => by have := hO.2 b q; omega)
  refine k v' w' ⟨by rw [List.length_append]; exact ho', fun b hb => ?_⟩ t' ((Touch.refl _ w).grown hgr (fun _ _ q => q))
  rcases hor with h | h
  · exact hO.2 b (by rw [← h]; exact hb)
  · rw [hb] at h
    obtain rfl : b = w.heap.size := by simpa using h
    exact ht.size

theorem run_bs0 {a : Act} {w : World} {op : Oper} (ho : op.op = .buildSlice 22 0 #[]) :
    (execOp a.eval op).run Try.prog w = .ok (.value (.slice (some ⟨w.heap.size, 0, none⟩) 0 0)) (w.alloc (.cells #[] 50)) := by
  have h : (Instr.buildSlice 22 0 #[]).run Try.prog w = .ok (.slice (some ⟨w.heap.size, 0, none⟩) 0 0) (w.alloc (.cells #[] 50)) := by kernel_rfl
  unfold execOp
  simp only [ho, List.map_toArray, List.map_nil, Sem.run_bind, h, Result.andThen_ok, Sem.run_pure]

theorem OwnF.empty (w0 w : World) (hw : w0.heap.size ≤ w.heap.size) : OwnF w0 (w.alloc (.cells #[] 50)) (.slice (some ⟨w.heap.size, 0, none⟩) 0 0) [] :=
  ⟨owns_empty w 50 4, fun b hb => by obtain rfl : w.heap.size = b := by simpa [Value.ownBlock] using hb
                                     exact hw⟩

theorem nil_yes (w : World) : (binOp .eql 22 (.slice none 0 0) (.slice none 0 0)).run Try.prog w = .ok (.bool true) w := by kernel_rfl
theorem nil_no (w : World) (p : Addr) (n c : Nat) : (binOp .eql 22 (.slice (some p) n c) (.slice none 0 0)).run Try.prog w = .ok (.bool false) w := by kernel_rfl

set_option maxRecDepth 100000 in
theorem Clone_any (w : World) (v : Value) (L : List Fr) (h : FrA w v L) (hl : L.length * 32 ≤ 140737488355328) :
    Calls Try.prog 33 #[v] w fun r w' => ∃ v', r = .returned v' ∧ OwnF w w' v' L ∧ Touch Nothing w w' := by
  rcases h with ⟨rfl, rfl⟩ | ⟨p, c, rfl, hs⟩
  · have k0 := nil_yes
    go_enter Try.func33, Try.ntmps33
    go_wp2
    go_ret
    exact ⟨_, rfl, OwnF.nil _ _, Touch.refl _ _⟩
  · have hA : FrA w (.slice (some p) L.length c) L := .inr ⟨p, c, rfl, hs⟩
    replace hA := Lib.hid hA
    clear hs
    have k0 := fun w => nil_no w p L.length c
    go_enter Try.func33, Try.ntmps33
    go_upto_region 3 with fail
    refine wp_region_list ?_
    refine l_value rfl (run_bs0 rfl) ?_
    simp only [Act.put, List.setIfInBounds_toArray, List.set_cons_zero, List.set_cons_succ]
    refine l_value rfl (run_move rfl rfl) ?_
    simp only [Act.put, List.setIfInBounds_toArray, List.set_cons_zero, List.set_cons_succ]
    have hE := OwnF.empty w w (Nat.le_refl _)
    have t0 := (Touch.refl Nothing w).alloc (.cells #[] 50)
    refine wpList_plain rfl fun K hK => wp_appS (L := []) (M := L) _ _ rfl rfl hE rfl (hA.out.keep t0 (fun _ _ _ _ _ q => q)) t0 (by simpa using hl) (fun v' w' hO ht _ => hK _ _ ?_)
    simp only [Act.put, List.setIfInBounds_toArray, List.set_cons_zero, List.set_cons_succ]
    clear hK K
    refine l_value rfl (run_asgn rfl rfl) ?_
    simp only [Act.put, List.setIfInBounds_toArray, List.set_cons_zero, List.set_cons_succ]
    refine wpList_nil ?_
    have hh := Lib.hid (And.intro hO ht)
    clear hO ht hE t0
    go_wp2
    go_ret
    exact ⟨_, rfl, hh.out.1, hh.out.2⟩

/-! ### The stable sort -/

/-- What SortStableFunc does to these frames in an own row (and to nil). -/
def Sorts (F : Nat) (cf : Fr → Fr → Int) (M : List Fr) : Prop :=
  ∀ (w : World) (g c : Nat), RowF w g M → Calls Try.prog 34 #[.slice (some ⟨g, 0, none⟩) M.length c, .func (.func F) #[] #[]] w fun r w' => r = .returned (.tuple #[]) ∧ RowF w' g (insS cf 0 M.length M) ∧ Touch (fun k => k = g) w w'

set_option maxRecDepth 100000 in
theorem ins_nil (F : Nat) (w : World) : Calls Try.prog 54 #[.slice none 0 0, .int .i64 0, .int .i64 0, .func (.func F) #[] #[]] w fun r w' => r = .returned (.tuple #[]) ∧ Touch Nothing w w' := by
  go_enter Try.func54, Try.ntmps54
  go_wp2
  go_loopw [8] (fun iv wr => iv = .int .i64 1 ∧ wr = w) (fun iv _ => 0)
  case atStart => exact ⟨rfl, rfl⟩
  case round =>
    obtain ⟨rfl, rfl⟩ := hrel
    go_wp2
    go_end0
    exact ⟨rfl, Touch.refl _ _⟩

set_option maxRecDepth 100000 in
theorem sort_nil (F : Nat) (w : World) : Calls Try.prog 34 #[.slice none 0 0, .func (.func F) #[] #[]] w fun r w' => r = .returned (.tuple #[]) ∧ Touch Nothing w w' := by
  have h49 : ∀ w, Calls Try.prog 49 #[.slice none 0 0, .int .i64 0, .func (.func F) #[] #[]] w fun r w' => r = .returned (.tuple #[]) ∧ Touch Nothing w w' := by
    intro w
    have hI := Lib.hid (fun w => ins_nil F w)
    go_enter Try.func49, Try.ntmps49
    go_wp2
    go_loopw [7, 8] (fun av bv wr => av = .int .i64 0 ∧ bv = .int .i64 20 ∧ wr = w) (fun _ _ _ => 0)
    case atStart => exact ⟨rfl, rfl, rfl⟩
    case round =>
      obtain ⟨rfl, rfl, rfl⟩ := hrel
      go_wp2_with (first | (go_at_call 54; refine (hI.out _).mono ?_; rintro r w2 ⟨rfl, t2⟩))
      go_loopw [6] (fun bv wr2 => bv = .int .i64 20 ∧ Touch Nothing wr wr2) (fun _ _ => 0)
      case atStart => exact ⟨rfl, t2⟩
      case round =>
        obtain ⟨rfl, t3⟩ := hrel
        go_wp2
        go_end0
        exact ⟨rfl, t3⟩
  replace h49 := Lib.hid h49
  go_enter Try.func34, Try.ntmps34
  go_wp2_with (first | (go_at_call 49; refine (h49.out _).mono ?_; rintro r w2 ⟨rfl, t2⟩))
  go_end0
  exact ⟨rfl, t2⟩

set_option maxRecDepth 100000 in
set_option maxHeartbeats 1600000 in
theorem sorts_small (F : Nat) (cf : Fr → Fr → Int) (hF : ∀ (args : Array Value) (w : World), (callFunc F args).run Try.prog w = .ok (.enter F args) w)
    (hcf : ∀ (w : World) (x y : Fr), Calls Try.prog F #[frV x, frV y] w fun r w' => r = .returned (.int .i64 (cf x y)) ∧ Touch Nothing w w')
    (M : List Fr) (hn : M.length < 20) : Sorts F cf M := by
  intro w g c hM
  have h49 : ∀ w, RowF w g M → Calls Try.prog 49 #[.slice (some ⟨g, 0, none⟩) M.length c, .int .i64 (M.length : Int), .func (.func F) #[] #[]] w fun r w' => r = .returned (.tuple #[]) ∧ RowF w' g (insS cf 0 M.length M) ∧ Touch (fun k => k = g) w w' := by
    intro w hM
    have hI := fun w h => ins_any F cf hF hcf w g c 0 M.length M h (Nat.le_refl _) (by omega) (Nat.zero_le _)
    obtain ⟨n, hnn⟩ : ∃ n, n = M.length := ⟨_, rfl⟩
    obtain ⟨res, hres⟩ : ∃ x, x = insS cf 0 n M := ⟨_, rfl⟩
    rw [← hnn] at hn hI ⊢
    rw [← hres] at hI ⊢
    have hni : (n : Int) < 20 := by omega
    clear hF hcf hnn hres
    replace hI := Lib.hid hI
    replace hM := Lib.hid hM
    go_enter Try.func49, Try.ntmps49
    go_wp2
    go_loopw [7, 8] (fun av bv wr => av = .int .i64 0 ∧ bv = .int .i64 20 ∧ wr = w) (fun _ _ _ => 0)
    case atStart => exact ⟨rfl, rfl, rfl⟩
    case round =>
      obtain ⟨rfl, rfl, rfl⟩ := hrel
      go_wp2_with (first | (go_at_call 54; refine (hI.out _ hM.out).mono ?_; rintro r w2 ⟨rfl, hR, t2⟩; replace hR := Lib.hid hR))
      go_loopw [6] (fun bv wr2 => bv = .int .i64 20 ∧ Hid (RowF wr2 g res) ∧ Touch (fun k => k = g) wr wr2) (fun _ _ => 0)
      case atStart => exact ⟨rfl, hR, t2⟩
      case round =>
        obtain ⟨rfl, hR2, t3⟩ := hrel
        go_wp2
        go_end0
        exact ⟨rfl, hR2.out, t3⟩
  replace h49 := Lib.hid h49
  replace hM := Lib.hid hM
  go_enter Try.func34, Try.ntmps34
  go_wp2_with (first | (go_at_call 49; refine (h49.out _ hM.out).mono ?_; rintro r w2 ⟨rfl, hR, t2⟩; replace hR := Lib.hid hR))
  go_end0
  exact ⟨rfl, hR.out, t2⟩

end Go.Proofs.Ytkoplgpobagfoaa
