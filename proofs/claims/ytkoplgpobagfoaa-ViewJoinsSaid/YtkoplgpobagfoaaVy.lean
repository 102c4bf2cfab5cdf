/-
  Layer 27: Links, walked. Printed by mkvy.py.
-/
import Derived.Test.YtkoplgpobagfoaaVx
namespace Go.Proofs.Ytkoplgpobagfoaa
open Go.RowKit
set_option linter.unusedVariables false
set_option linter.unusedSimpArgs false

section
variable {a : Act} {w : World} {op : Oper}
theorem run_eqI {x y : Operand} {m n : Int} (b : Bool) (ho : op.op = .binOp .eql 3 x y 3) (hx : a.eval x = .int .i64 m) (hy : a.eval y = .int .i64 n) (hb : decide (m = n) = b) :
    (execOp a.eval op).run Try.prog w = .ok (.value (.bool b)) w := by
  subst hb
  unfold execOp
  simp only [ho, hx, hy]
  go_simp
  all_goals first | rfl | (by_cases h : m = n <;> simp [h]; done) | skip
theorem run_neLk {x y : Operand} {m n p q : Int} (b : Bool) (ho : op.op = .binOp .neq 65 x y 65) (hx : a.eval x = .agg #[.int .i64 m, .int .i64 n]) (hy : a.eval y = .agg #[.int .i64 p, .int .i64 q]) (hb : (!decide (m = p ∧ n = q)) = b) :
    (execOp a.eval op).run Try.prog w = .ok (.value (.bool b)) w := by
  subst hb
  unfold execOp
  simp only [ho, hx, hy, Sem.run_bind, run_gL, run_neL, Result.andThen_ok, Sem.run_pure]
theorem run_build29 {x y : Operand} {m n : Int} (ho : op.op = .build 29 #[(0, x), (1, y)]) (hx : a.eval x = .int .i64 m) (hy : a.eval y = .int .i64 n) :
    (execOp a.eval op).run Try.prog w = .ok (.value (frV ⟨m, n, 0, 0⟩)) w := by
  have h : (Instr.build 29 #[(0, .int .i64 m), (1, .int .i64 n)]).run Try.prog w = .ok (frV ⟨m, n, 0, 0⟩) w := by kernel_rfl
  unfold execOp
  simp only [ho, List.map_toArray, List.map_cons, List.map_nil, hx, hy, Sem.run_bind, h, Result.andThen_ok, Sem.run_pure]
theorem run_bs24 {x : Operand} {f : Fr} (ho : op.op = .buildSlice 24 1 #[(0, x)]) (hx : a.eval x = frV f) :
    (execOp a.eval op).run Try.prog w = .ok (.value (.slice (some ⟨w.heap.size, 0, none⟩) 1 1)) (w.alloc (.cells (frCs f).toArray 29)) := by
  obtain ⟨fa, ff, ft, fl⟩ := f
  have h : (Instr.buildSlice 24 1 #[(0, frV ⟨fa, ff, ft, fl⟩)]).run Try.prog w = .ok (.slice (some ⟨w.heap.size, 0, none⟩) 1 1) (w.alloc (.cells (frCs ⟨fa, ff, ft, fl⟩).toArray 29)) := by kernel_rfl
  unfold execOp
  simp only [ho, List.map_toArray, List.map_cons, List.map_nil, hx, Sem.run_bind, h, Result.andThen_ok, Sem.run_pure]
end
theorem run_ia22o {a : Act} {w : World} {op : Oper} {x y : Operand} {g o n c : Nat} {z : Int} (j : Nat) (ho : op.op = .indexAddr 22 x y) (hx : a.eval x = .slice (some ⟨g, o, none⟩) n c) (hy : a.eval y = .int .i64 z) (hz : z = (j : Int)) (h : j < n) :
    (execOp a.eval op).run Try.prog w = .ok (.value (.pointer (some ⟨g, o + j * 4, none⟩))) w := by
  subst hz
  have h0 : (0 : Int) ≤ (j : Int) := by omega
  have h1 : (j : Int) < (n : Int) := by omega
  unfold execOp
  simp only [ho, hx, hy]
  go_simp

theorem cf38 (args : Array Value) (w : World) : (callFunc 38 args).run Try.prog w = .ok (.enter 38 args) w := by kernel_rfl

/-- What Links hands back: nil or a row of links, and an error's number. -/
def LinksPost (w : World) (x : List Fr × Int) (r : Ending) (w' : World) : Prop :=
  ∃ v, r = .returned (.tuple #[v, .int .i64 x.2]) ∧ OwnK w w' v x.1 ∧ Touch Nothing w w'

theorem OwnK.mono {w0 w1 w : World} {v : Value} {L : List Fr} (h : OwnK w1 w v L) (hs : w0.heap.size ≤ w1.heap.size) : OwnK w0 w v L := by
  rcases h with h | ⟨g, c, h1, h2, h3, h4, h5⟩
  · exact .inl h
  · exact .inr ⟨g, c, h1, h2, by omega, h4, h5⟩

theorem wp_callE {a : Act} {w : World} {op : Oper} {K : Act → World → Prop} {Q : Exit → Act → World → Prop} {c : Call} {f : FuncId} {args : Array Value} {R : Ending → World → Prop} (hf : ∀ (args : Array Value) (w : World), (callFunc f args).run Try.prog w = .ok (.enter f args) w) (ho : op.op = .call c) (x : Operand) (hc : c.callee = .value x) (cb : Array Value) (hx : a.eval x = .func (.func f) #[] cb) (ha : (c.args.toList.map a.eval) ++ cb.toList = args.toList)
    (h : Calls Try.prog f args w R) (k : ∀ r w', R r w' → ∃ v, r = .returned v ∧ K (a.put op.dst v) w') : op.wp Try.prog a w K Q := by
  have ha2 : c.args.map a.eval ++ cb = args := by
    apply Array.toList_inj.1
    rw [Array.toList_append, Array.toList_map]
    exact ha
  have e : (execOp a.eval op).run Try.prog w = .ok (.enter f args) w := by
    unfold execOp
    simp only [ho, resolve, hc]
    simp only [hx, Deferred.ofValue, invoke, Sem.run_bind, Sem.run_pure, Result.andThen_ok, Array.empty_append, ha2, hf]
  unfold Oper.wp
  rw [e]
  refine h.mono ?_
  intro r w' hR
  obtain ⟨v, rfl, hk⟩ := k r w' hR
  exact hk

theorem sortOwn {w0 w : World} {v : Value} {L : List Fr} (F : Nat) (cf : Fr → Fr → Int) (h : OwnF w0 w v L) (ht : Touch Nothing w0 w) (hsort : Sorts F cf L) :
    Calls Try.prog 34 #[v, .func (.func F) #[] #[]] w fun r w' => r = .returned (.tuple #[]) ∧ (∃ p c, v = .slice p L.length c ∧ FrSl w' p c (insS cf 0 L.length L)) ∧ Touch Nothing w0 w' := by
  rcases h.row with ⟨rfl, rfl⟩ | ⟨g, c, rfl, hr, hc, hg⟩
  · exact (sort_nil F w).mono fun r w' q => ⟨q.1, ⟨none, 0, rfl, Nat.zero_le _, fun i hi => by rw [insS_len] at hi; simp at hi⟩, ht.trans' q.2⟩
  · exact (hsort w g c hr).mono fun r w' q => ⟨q.1, ⟨_, c, rfl, q.2.1.sl (by rw [insS_len]; exact hc)⟩, ht.trans q.2.2 fun i hi e => by omega⟩
theorem cf33 (args : Array Value) (w : World) : (callFunc 33 args).run Try.prog w = .ok (.enter 33 args) w := by kernel_rfl
theorem cf34 (args : Array Value) (w : World) : (callFunc 34 args).run Try.prog w = .ok (.enter 34 args) w := by kernel_rfl

/-- The last link counts one frame more. -/
theorem lstep_set (out : List Fr) (nw : Bool) (x : Fr) (o : List Fr) (ho : o = if nw = true then out ++ [⟨x.f, x.t, 0, 0⟩] else out) (n : Nat) (hn : o.length = n + 1) (k : Fr) (hk : k = o[n]'(by omega)) :
    o.set n ⟨k.a, k.f, k.t + 1, k.l + x.l⟩ = lstep out nw x := by
  unfold lstep
  cases nw with
  | true =>
    rw [if_pos rfl] at ho ⊢
    subst ho
    have hn2 : out.length = n := by simpa using hn
    have hk2 : k = ⟨x.f, x.t, 0, 0⟩ := by rw [hk, List.getElem_append_right (by omega)]; simp [hn2]
    subst hk2
    rw [List.set_append_right _ _ (by omega), show n - out.length = 0 by omega]
    simp
  | false =>
    rw [if_neg (by simp)] at ho ⊢
    subst ho
    have hl : o.getLast? = some k := by rw [List.getLast?_eq_getElem?, hn, show n + 1 - 1 = n by omega, List.getElem?_eq_getElem (by omega), hk]
    rw [hl]
    simp only []
    obtain ⟨ys, hys⟩ := List.getLast?_eq_some_iff.1 hl
    have hyl : ys.length = n := by have := congrArg List.length hys; simp at this; omega
    rw [hys, List.dropLast_concat, List.set_append_right _ _ (by omega), show n - ys.length = 0 by omega]
    rfl

set_option maxRecDepth 100000 in
set_option maxHeartbeats 6400000 in
theorem Links_any (w : World) (v : Value) (M : List Fr) (hM : FrA w v M) (hsort : Sorts 35 cmpFT M) (hl : M.length * 32 ≤ 140737488355328) :
    Calls Try.prog 12 #[v] w (LinksPost w (linksR M)) := by
  obtain ⟨res, hres⟩ : ∃ x, x = linksR M := ⟨_, rfl⟩
  rw [← hres]
  unfold linksR at hres
  obtain ⟨p0, c0, hv, hsl⟩ := hM.sl
  have hC : ∀ w', Touch Nothing w w' → Calls Try.prog 21 #[v] w' fun r w2 => r = .returned (.tuple #[.int .i64 (chkR M).1, .int .i64 (chkR M).2]) ∧ Touch Nothing w' w2 := fun w' t => by rw [hv]; exact Check_any w' p0 c0 M (hsl.keep t (fun _ _ q => q))
  obtain ⟨⟨q, e⟩, hq⟩ : ∃ y, y = chkR M := ⟨_, rfl⟩
  rw [← hq] at hres hC
  simp only [] at hres hC
  by_cases he : e = 0
  · subst he
    rw [if_neg (by simp)] at hres
    obtain ⟨hlen, hbad⟩ := chkR_ok (by rw [← hq])
    have hCl := fun w' t => Clone_any w' v M (FrA.keep (F := Nothing) hM (w' := w') t (fun _ _ _ _ _ q => q)) hl
    obtain ⟨S, hS⟩ : ∃ S, S = insS cmpFT 0 M.length M := ⟨_, rfl⟩
    have hSl : S.length = M.length := by rw [hS, insS_len]
    have hSb : ∀ x ∈ S, 0 ≤ x.l ∧ x.l ≤ 65536 := fun x hx => by
      have := hbad x (insS_mem (by rw [← hS]; exact hx))
      unfold bad at this
      omega
    unfold Sorts at hsort
    rw [← hS] at hres hsort
    clear hbad hM hsl hv hq
    replace hres := Lib.hid hres
    replace hsort := Lib.hid hsort
    replace hC := Lib.hid hC
    replace hCl := Lib.hid hCl
    replace hSb := Lib.hid hSb
    replace hS := Lib.hid hS
    go_enter Try.func12, Try.ntmps12
    go_upto_region 4 with (first | (go_at_call 21; refine (hC.out _ (Touch.refl _ _)).mono ?_; rintro r w1 ⟨rfl, t1⟩))
    refine wp_region_list ?_
    refine l_value rfl (run_move (v := v) rfl rfl) ?_
    simp only [Act.put, List.setIfInBounds_toArray, List.set_cons_zero, List.set_cons_succ]
    refine wpList_plain rfl fun K hK => wp_callE (args := #[v]) cf33 rfl _ rfl #[] rfl rfl (hCl.out _ t1) ?_
    rintro r w2 ⟨v2, rfl, hO2, t2⟩
    refine ⟨v2, rfl, hK _ _ ?_⟩
    clear hK K
    simp only [Act.put, List.setIfInBounds_toArray, List.set_cons_zero, List.set_cons_succ]
    refine l_value rfl (run_asgn (v := v2) rfl rfl) ?_
    simp only [Act.put, List.setIfInBounds_toArray, List.set_cons_zero, List.set_cons_succ]
    refine wpList_nil ?_
    have hO3 : OwnF w w2 v2 M := ⟨hO2.1, fun b hb => by have := hO2.2 b hb; have := t1.size; omega⟩
    have t3 : Touch Nothing w w2 := t1.trans' t2
    have hSo := sortOwn 35 cmpFT hO3 t3 (by unfold Sorts; rw [← hS.out]; exact hsort.out)
    rw [← hS.out] at hSo
    clear hO2 hO3 t2 t1 t3
    replace hSo := Lib.hid hSo
    go_upto_region 5 with fail
    refine wp_region_list ?_
    refine l_value rfl (run_move (v := v2) rfl rfl) ?_
    simp only [Act.put, List.setIfInBounds_toArray, List.set_cons_zero, List.set_cons_succ]
    refine wpList_plain rfl fun K hK => wp_callE (args := #[v2, .func (.func 35) #[] #[]]) cf34 rfl _ rfl #[] rfl rfl hSo.out ?_
    rintro r w3 ⟨rfl, ⟨p, c, rfl, hsl⟩, t3⟩
    refine ⟨_, rfl, hK _ _ ?_⟩
    clear hK K
    simp only [Act.put, List.setIfInBounds_toArray, List.set_cons_zero, List.set_cons_succ]
    refine wpList_nil ?_
    rw [← hSl] at hlen ⊢
    clear hSo hSl hl
    replace hsl := Lib.hid hsl
    go_wp2
    go_loopw [7, 25] (fun ov iv wr => ∃ (i : Nat) (v : Value) (out : List Fr) (p1 : Option Fr), i ≤ S.length ∧ iv = .int .i64 (i : Int) ∧ ov = v ∧ Hid (OwnK w3 wr v out ∧ LBnd i out ∧ out.length ≤ i ∧ lgo p1 out (S.drop i) = lgo none [] S ∧ ((i = 0 ∧ p1 = none ∧ out = []) ∨ ∃ j, ∃ hj : j < S.length, i = j + 1 ∧ p1 = some S[j] ∧ 0 < out.length)) ∧ Touch Nothing w3 wr) (fun _ iv _ => S.length - (intOf iv).toNat)
    case atStart => exact ⟨0, _, [], none, Nat.zero_le _, rfl, rfl, Lib.hid ⟨.inl ⟨rfl, rfl⟩, fun y hy => by simp at hy, Nat.le_refl _, rfl, .inl ⟨rfl, rfl, rfl⟩⟩, Touch.refl _ _⟩
    case round =>
      obtain ⟨i, v4, out, p1, hi, rfl, rfl, hI, ht⟩ := hrel
      by_cases hlt : i < S.length
      · obtain ⟨hO, hB, hol, hG, hP⟩ := hI.out
        obtain ⟨g, o, hpe, hr⟩ := (hsl.out.keep ht (fun _ _ q => q)).2 i hlt
        subst hpe
        obtain ⟨x, hx⟩ : ∃ x, x = S[i] := ⟨_, rfl⟩
        rw [← hx] at hr
        have hxb : 0 ≤ x.l ∧ x.l ≤ 65536 := hSb.out x (by rw [hx]; exact List.getElem_mem _)
        obtain ⟨nb, hnb⟩ : ∃ nb, nb = isNew p1 x := ⟨_, rfl⟩
        have hG2 : lgo (some x) (lstep out nb x) (S.drop (i + 1)) = lgo none [] S := by rw [← hG, List.drop_eq_getElem_cons hlt, ← hx, hnb]; rfl
        have hP2 : nb = true ∨ 0 < out.length := by
          rcases hP with ⟨_, h, _⟩ | ⟨_, _, _, _, h⟩
          · left; rw [hnb, h]; rfl
          · right; exact h
        obtain ⟨xa, xf, xt, xl⟩ := x
        obtain ⟨c0, c1, c2, c3⟩ := fr_cells hr
        simp only [] at c0 c1 c2 c3 hxb
        have hi0 : (0 : Int) ≤ (i : Int) := by omega
        replace hx := Lib.hid hx
        replace hG2 := Lib.hid hG2
        replace hO := Lib.hid hO
        replace hB := Lib.hid hB
        replace hnb := Lib.hid hnb
        clear hG hI hr hsort hC hCl
        go_upto_region 10 with fail
        obtain ⟨W5, e5⟩ : ∃ W, W = wr.alloc (.cells #[.int .i64 xa, .int .i64 xf, .int .i64 xt, .int .i64 xl] 50) := ⟨_, rfl⟩
        have h9 := heap_new wr (.cells #[.int .i64 xa, .int .i64 xf, .int .i64 xt, .int .i64 xl] 50)
        have t5 := (Touch.refl Nothing wr).alloc (.cells #[.int .i64 xa, .int .i64 xf, .int .i64 xt, .int .i64 xl] 50)
        rw [← e5] at h9 t5 ⊢
        clear e5
        obtain ⟨g9, e9⟩ : ∃ g, g = wr.heap.size := ⟨_, rfl⟩
        rw [← e9] at h9 ⊢
        replace e9 := Lib.hid e9
        go_cut [42] (fun v wx => v = .bool nb ∧ Touch Nothing W5 wx)
        case first =>
          refine wp_region_held_drew (S := fun w' => Touch Nothing W5 w') (by kernel_rfl) ((Touch.refl Nothing W5).drew) (fun tc => ?_)
          rcases hP with ⟨rfl, rfl, rfl⟩ | ⟨j, hj, rfl, rfl, hpos⟩
          · have hnt : nb = true := hnb.out
            subst hnt
            refine d_value (i := 0) rfl (by kernel_rfl) (by kernel_rfl) (by kernel_rfl) rfl (fun _ _ _ h => h) (fun w9 hS => run_move rfl rfl) tc ?_
            simp only [Act.put, List.setIfInBounds_toArray, List.set_cons_zero, List.set_cons_succ]
            refine d_value (i := 1) rfl (by kernel_rfl) (by kernel_rfl) (by kernel_rfl) rfl (fun _ _ _ h => h) (fun w9 hS => run_eqI true rfl rfl rfl (by decide)) tc ?_
            simp only [Act.put, List.setIfInBounds_toArray, List.set_cons_zero, List.set_cons_succ]
            refine d_value (i := 2) rfl (by kernel_rfl) (by kernel_rfl) (by kernel_rfl) rfl (fun _ _ _ h => h) (fun w9 hS => run_move rfl rfl) tc ?_
            simp only [Act.put, List.setIfInBounds_toArray, List.set_cons_zero, List.set_cons_succ]
            refine d_out (i := 3) rfl (by kernel_rfl) (by kernel_rfl) (by kernel_rfl) rfl (fun _ _ _ h => h) tc ?_
            simp only [Act.put, List.setIfInBounds_toArray, List.set_cons_zero, List.set_cons_succ]
            refine d_out (i := 4) rfl (by kernel_rfl) (by kernel_rfl) (by kernel_rfl) rfl (fun _ _ _ h => h) tc ?_
            simp only [Act.put, List.setIfInBounds_toArray, List.set_cons_zero, List.set_cons_succ]
            refine d_out (i := 5) rfl (by kernel_rfl) (by kernel_rfl) (by kernel_rfl) rfl (fun _ _ _ h => h) tc ?_
            simp only [Act.put, List.setIfInBounds_toArray, List.set_cons_zero, List.set_cons_succ]
            refine d_out (i := 6) rfl (by kernel_rfl) (by kernel_rfl) (by kernel_rfl) rfl (fun _ _ _ h => h) tc ?_
            simp only [Act.put, List.setIfInBounds_toArray, List.set_cons_zero, List.set_cons_succ]
            refine d_out (i := 7) rfl (by kernel_rfl) (by kernel_rfl) (by kernel_rfl) rfl (fun _ _ _ h => h) tc ?_
            simp only [Act.put, List.setIfInBounds_toArray, List.set_cons_zero, List.set_cons_succ]
            refine d_out (i := 8) rfl (by kernel_rfl) (by kernel_rfl) (by kernel_rfl) rfl (fun _ _ _ h => h) tc ?_
            simp only [Act.put, List.setIfInBounds_toArray, List.set_cons_zero, List.set_cons_succ]
            refine d_out (i := 9) rfl (by kernel_rfl) (by kernel_rfl) (by kernel_rfl) rfl (fun _ _ _ h => h) tc ?_
            simp only [Act.put, List.setIfInBounds_toArray, List.set_cons_zero, List.set_cons_succ]
            refine d_out (i := 10) rfl (by kernel_rfl) (by kernel_rfl) (by kernel_rfl) rfl (fun _ _ _ h => h) tc ?_
            simp only [Act.put, List.setIfInBounds_toArray, List.set_cons_zero, List.set_cons_succ]
            refine d_out (i := 11) rfl (by kernel_rfl) (by kernel_rfl) (by kernel_rfl) rfl (fun _ _ _ h => h) tc ?_
            simp only [Act.put, List.setIfInBounds_toArray, List.set_cons_zero, List.set_cons_succ]
            refine d_value (i := 12) rfl (by kernel_rfl) (by kernel_rfl) (by kernel_rfl) rfl (fun _ _ _ h => h) (fun w9 hS => run_pick rfl rfl rfl) tc ?_
            simp only [Act.put, List.setIfInBounds_toArray, List.set_cons_zero, List.set_cons_succ]
            refine wpAnyH_done (by kernel_rfl) ?_ _
            replace tc := Lib.hid tc
            clear c0 c1 c2 c3 h9 t5 ht
            go_wp2_with fail
            go_meet
            exact ⟨rfl, tc.out⟩
          · obtain ⟨y, hy⟩ : ∃ y, y = S[j] := ⟨_, rfl⟩
            have hry : wr.rangeAt g (o + j * 4) (frCs y) := by
              obtain ⟨g', o', q', r'⟩ := (hsl.out.keep ht (fun _ _ q => q)).2 j hj
              cases q'
              rw [hy]; exact r'
            have hnt : (!decide (y.f = xf ∧ y.t = xt)) = nb := by rw [hnb.out, hy]; rfl
            have hrx : W5.rangeAt g9 0 (frCs ⟨xa, xf, xt, xl⟩) := range_blk h9
            refine d_value (i := 0) rfl (by kernel_rfl) (by kernel_rfl) (by kernel_rfl) rfl (fun _ _ _ h => h) (fun w9 hS => run_move rfl rfl) tc ?_
            simp only [Act.put, List.setIfInBounds_toArray, List.set_cons_zero, List.set_cons_succ]
            refine d_value (i := 1) rfl (by kernel_rfl) (by kernel_rfl) (by kernel_rfl) rfl (fun _ _ _ h => h) (fun w9 hS => run_eqI false rfl rfl rfl (decide_eq_false (by omega))) tc ?_
            simp only [Act.put, List.setIfInBounds_toArray, List.set_cons_zero, List.set_cons_succ]
            refine d_value (i := 2) rfl (by kernel_rfl) (by kernel_rfl) (by kernel_rfl) rfl (fun _ _ _ h => h) (fun w9 hS => run_move rfl rfl) tc ?_
            simp only [Act.put, List.setIfInBounds_toArray, List.set_cons_zero, List.set_cons_succ]
            refine d_value (i := 3) rfl (by kernel_rfl) (by kernel_rfl) (by kernel_rfl) rfl (fun _ _ _ h => h) (fun w9 hS => run_move rfl rfl) tc ?_
            simp only [Act.put, List.setIfInBounds_toArray, List.set_cons_zero, List.set_cons_succ]
            refine d_value (i := 4) rfl (by kernel_rfl) (by kernel_rfl) (by kernel_rfl) rfl (fun _ _ _ h => h) (fun w9 hS => run_move rfl rfl) tc ?_
            simp only [Act.put, List.setIfInBounds_toArray, List.set_cons_zero, List.set_cons_succ]
            refine d_value (i := 5) rfl (by kernel_rfl) (by kernel_rfl) (by kernel_rfl) rfl (fun _ _ _ h => h) (fun w9 hS => run_sub (j : Int) rfl rfl rfl (by omega) (by omega) (by omega)) tc ?_
            simp only [Act.put, List.setIfInBounds_toArray, List.set_cons_zero, List.set_cons_succ]
            refine d_value (i := 6) rfl (by kernel_rfl) (by kernel_rfl) (by kernel_rfl) rfl (fun _ _ _ h => h) (fun w9 hS => run_ia22o j rfl rfl rfl rfl (by omega)) tc ?_
            simp only [Act.put, List.setIfInBounds_toArray, List.set_cons_zero, List.set_cons_succ]
            refine d_value (i := 7) rfl (by kernel_rfl) (by kernel_rfl) (by kernel_rfl) rfl (fun _ _ _ h => h) (fun w9 hS => run_ldF (f := y) rfl rfl (range_keep (range_keep hry t5 (fun q => q)) hS (fun q => q))) tc ?_
            simp only [Act.put, List.setIfInBounds_toArray, List.set_cons_zero, List.set_cons_succ]
            refine d_value (i := 9) rfl (by kernel_rfl) (by kernel_rfl) (by kernel_rfl) rfl (fun _ _ _ h => h) (fun w9 hS => run_ldF (f := ⟨xa, xf, xt, xl⟩) rfl rfl (range_keep hrx hS (fun q => q))) tc ?_
            simp only [Act.put, List.setIfInBounds_toArray, List.set_cons_zero, List.set_cons_succ]
            refine d_call (args := #[frV y]) (i := 8) (by kernel_rfl) rfl rfl cf38 rfl _ rfl #[] rfl rfl (link_any _ y) (fun _ t => tc.trans' t) (fun wn8 tn => ?_)
            simp only [Act.put, List.setIfInBounds_toArray, List.set_cons_zero, List.set_cons_succ]
            replace tc := tc.trans' tn
            clear tn
            refine d_call (args := #[frV ⟨xa, xf, xt, xl⟩]) (i := 10) (by kernel_rfl) rfl rfl cf38 rfl _ rfl #[] rfl rfl (link_any _ ⟨xa, xf, xt, xl⟩) (fun _ t => tc.trans' t) (fun wn10 tn => ?_)
            simp only [Act.put, List.setIfInBounds_toArray, List.set_cons_zero, List.set_cons_succ]
            replace tc := tc.trans' tn
            clear tn
            refine d_value (i := 11) rfl (by kernel_rfl) (by kernel_rfl) (by kernel_rfl) rfl (fun _ _ _ h => h) (fun w9 hS => run_neLk nb rfl rfl rfl hnt) tc ?_
            simp only [Act.put, List.setIfInBounds_toArray, List.set_cons_zero, List.set_cons_succ]
            refine d_value (i := 12) rfl (by kernel_rfl) (by kernel_rfl) (by kernel_rfl) rfl (fun _ _ _ h => h) (fun w9 hS => run_pick rfl rfl rfl) tc ?_
            simp only [Act.put, List.setIfInBounds_toArray, List.set_cons_zero, List.set_cons_succ]
            refine wpAnyH_done (by kernel_rfl) ?_ _
            replace tc := Lib.hid tc
            clear c0 c1 c2 c3 h9 t5 ht hry hrx
            go_wp2_with fail
            go_meet
            exact ⟨rfl, tc.out⟩
        case rest =>
        obtain ⟨rfl, t6⟩ := hcut
        obtain ⟨W6, e6⟩ : ∃ v : World, v = wc := ⟨_, rfl⟩
        rw [← e6] at t6 ⊢
        clear e6 wc c0 c1 c2 c3
        replace h9 := t6.heap h9 (fun q => q)
        have hO6 := (hO.out.keep t5).keep t6
        have ht6 := (ht.trans' t5).trans' t6
        obtain ⟨out1, hout1⟩ : ∃ o, o = if nb = true then out ++ [(⟨xf, xt, 0, 0⟩ : Fr)] else out := ⟨_, rfl⟩
        have hne9 : ∀ b, Value.ownBlock _ = some b → ¬ g9 = b := fun b q e => by have := hO.out.lt q; have := e9.out; omega
        have x1 := cell_blk h9 1
        have x2 := cell_blk h9 2
        have hnl : (out.length + 1) * 32 ≤ 140737488355328 := by omega
        go_upto_if 42 with fail
        go_cut [7] (fun v wx => ∃ v', v = v' ∧ OwnK w3 wx v' out1 ∧ wx.heap[g9]? = some (.cells #[.int .i64 xa, .int .i64 xf, .int .i64 xt, .int .i64 xl] 50) ∧ Touch Nothing w3 wx)
        case first =>
          cases nb
          · rw [if_neg (by simp)] at hout1
            subst hout1
            have hh := Lib.hid (And.intro hO6 (And.intro h9 ht6))
            clear hO6 h9 ht6 x1 x2 t5 t6 ht
            go_wp2_with fail
            go_meet
            exact ⟨_, rfl, hh.out.1, hh.out.2.1, hh.out.2.2⟩
          · rw [if_pos rfl] at hout1
            go_upto_region 11 with fail
            refine wp_region_list ?_
            refine l_value rfl (run_move rfl rfl) ?_
            simp only [Act.put, List.setIfInBounds_toArray, List.set_cons_zero, List.set_cons_succ]
            refine l_value rfl (run_f50 1 rfl rfl (by decide)) ?_
            simp only [Act.put, List.setIfInBounds_toArray, List.set_cons_zero, List.set_cons_succ]
            refine l_value rfl (run_load3 rfl rfl x1) ?_
            simp only [Act.put, List.setIfInBounds_toArray, List.set_cons_zero, List.set_cons_succ]
            refine l_value rfl (run_f50 2 rfl rfl (by decide)) ?_
            simp only [Act.put, List.setIfInBounds_toArray, List.set_cons_zero, List.set_cons_succ]
            refine l_value rfl (run_load3 rfl rfl x2) ?_
            simp only [Act.put, List.setIfInBounds_toArray, List.set_cons_zero, List.set_cons_succ]
            refine l_value rfl (run_build29 (m := xf) (n := xt) rfl rfl rfl) ?_
            simp only [Act.put, List.setIfInBounds_toArray, List.set_cons_zero, List.set_cons_succ]
            refine l_value rfl (run_bs24 (f := ⟨xf, xt, 0, 0⟩) rfl rfl) ?_
            simp only [Act.put, List.setIfInBounds_toArray, List.set_cons_zero, List.set_cons_succ]
            have hg := heap_new W6 (.cells (frCs ⟨xf, xt, 0, 0⟩).toArray 29)
            have ta := (Touch.refl Nothing W6).alloc (.cells (frCs ⟨xf, xt, 0, 0⟩).toArray 29)
            refine wpList_plain rfl fun K hK => wp_appK (L := out) _ _ rfl rfl (hO6.keep ta) rfl hg (ht6.trans' ta) hnl (fun v' w' hO' ht' tg => hK _ _ ?_)
            clear hK K
            simp only [Act.put, List.setIfInBounds_toArray, List.set_cons_zero, List.set_cons_succ]
            refine l_value rfl (run_asgn (v := v') rfl rfl) ?_
            simp only [Act.put, List.setIfInBounds_toArray, List.set_cons_zero, List.set_cons_succ]
            refine wpList_nil ?_
            rw [← hout1] at hO'
            have hh := Lib.hid (And.intro hO' (And.intro (tg.heap (ta.heap h9 (fun q => q)) (fun q => hne9 _ q rfl)) ht'))
            clear hO6 h9 ht6 x1 x2 hg ta hO' ht' tg t5 t6 ht
            go_wp2_with fail
            go_meet
            exact ⟨_, rfl, hh.out.1, hh.out.2.1, hh.out.2.2⟩
        case rest =>
        obtain ⟨v6, rfl, hO7, h97, t7⟩ := hcut
        obtain ⟨W7, e7⟩ : ∃ v : World, v = wc := ⟨_, rfl⟩
        rw [← e7] at hO7 h97 t7 ⊢
        clear e7 wc hO6 h9 ht6 x1 x2 t5 t6 ht
        have hpos1 : 0 < out1.length := by
          rw [hout1]
          rcases hP2 with h | h
          · rw [if_pos h]; simp
          · split
            · simp
            · exact h
        have hB1 : LBnd i out1 := by
          intro y hy
          rw [hout1] at hy
          split at hy
          · rcases List.mem_append.1 hy with h | h
            · exact hB.out y h
            · rw [List.mem_singleton] at h; subst h; simp only []; omega
          · exact hB.out y hy
        have hstep := lstep_set out nb ⟨xa, xf, xt, xl⟩ out1 hout1
        have hlen2 := lstep_len out nb ⟨xa, xf, xt, xl⟩
        have hlpos := lstep_pos out nb ⟨xa, xf, xt, xl⟩ hP2
        have hbn2 := lstep_bnd (n := i) (out := out) (nw := nb) (x := ⟨xa, xf, xt, xl⟩) hB.out hxb
        obtain ⟨n, hn1⟩ : ∃ n, out1.length = n + 1 := ⟨out1.length - 1, by omega⟩
        rcases hO7 with ⟨_, h⟩ | ⟨gk, ck, rfl, hRK, hgk, hlc, hmx⟩
        · rw [h] at hpos1; simp at hpos1
        have hin : n < out1.length := by omega
        obtain ⟨⟨ka, kf, kt, kl⟩, hk⟩ : ∃ k, k = out1[n] := ⟨_, rfl⟩
        have hkb := hB1 out1[n] (List.getElem_mem _)
        have hset := hstep n hn1 ⟨ka, kf, kt, kl⟩ hk
        rw [← hk] at hkb
        simp only [] at hkb hset
        have c2 := hRK.cell n 2 hin (by decide)
        have c3 := hRK.cell n 3 hin (by decide)
        rw [← hk] at c2 c3
        replace c2 : W7.cell? ⟨gk, n * 4 + 2, none⟩ = some (.int .i64 kt) := c2
        replace c3 : W7.cell? ⟨gk, n * 4 + 3, none⟩ = some (.int .i64 kl) := c3
        have f2 := hRK.frz (n * 4 + 2)
        have hne : ¬ gk = g9 := fun q => by
          obtain ⟨ex, hg, _⟩ := hRK
          rw [q, h97] at hg
          have h5 := congrArg (fun o : Option Obj => match o with | some (.cells _ t _) => t | _ => 0) hg
          exact absurd (show (50 : Nat) = 29 from h5) (by decide)
        have R8 := hRK.set n 2 hin (.int .i64 (kt + 1)) ⟨ka, kf, kt + 1, kl⟩ (by rw [← hk]; rfl) (by decide)
        have hin8 : n < (out1.set n (⟨ka, kf, kt + 1, kl⟩ : Fr)).length := by rw [List.length_set]; exact hin
        have d3 := R8.cell n 3 hin8 (by decide)
        have f3 := R8.frz (n * 4 + 3)
        rw [List.getElem_set_self] at d3
        replace d3 : (W7.setCell ⟨gk, n * 4 + 2, none⟩ (.int .i64 (kt + 1))).cell? ⟨gk, n * 4 + 3, none⟩ = some (.int .i64 kl) := d3
        have t8 : Touch (fun b => b = gk) W7 (W7.setCell ⟨gk, n * 4 + 2, none⟩ (.int .i64 (kt + 1))) := (Touch.refl (fun b => b = gk) W7).setCell (p := ⟨gk, n * 4 + 2, none⟩) (fun _ => rfl) _
        have d9 := (cell_blk (t8.heap h97 (fun q => hne q.symm)) 3).trans (show (#[Value.int .i64 xa, .int .i64 xf, .int .i64 xt, .int .i64 xl] : Array Value)[3]? = some (.int .i64 xl) from rfl)
        have R9 := RowK.set R8 n 3 hin8 (.int .i64 (kl + xl)) ⟨ka, kf, kt + 1, kl + xl⟩ (by rw [List.getElem_set_self]; rfl) (by decide)
        rw [List.set_set, hset] at R9
        have hlst : (lstep out nb ⟨xa, xf, xt, xl⟩).length = n + 1 := by rw [← hset, List.length_set]; exact hn1
        have t9 : Touch Nothing w3 _ := ((t7.trans t8 (fun i hi q => by omega)).trans ((Touch.refl (fun b => b = gk) (W7.setCell ⟨gk, n * 4 + 2, none⟩ (.int .i64 (kt + 1)))).setCell (p := ⟨gk, n * 4 + 3, none⟩) (fun _ => rfl) (.int .i64 (kl + xl))) (fun i hi q => by omega)).drew
        have hown : OwnK w3 _ (.slice (some ⟨gk, 0, none⟩) (n + 1) ck) (lstep out nb ⟨xa, xf, xt, xl⟩) := .inr ⟨gk, ck, by rw [hlst], R9.keep ((Touch.refl Nothing _).drew) (fun q => q), hgk, by omega, hmx⟩
        rw [hn1]
        have j1 : (n : Int) + 1 - 1 = (n : Int) := by omega
        have j2 : IntKind.i64.wrap (n : Int) = (n : Int) := wraps_i64 _ (by omega) (by omega)
        have j3 : (n : Int) < (n : Int) + 1 := by omega
        have j4 : (0 : Int) ≤ (n : Int) := by omega
        have w1' : IntKind.i64.wrap (kt + 1) = kt + 1 := wraps_i64 _ (by omega) (by omega)
        have w2' : IntKind.i64.wrap (kl + xl) = kl + xl := wraps_i64 _ (by omega) (by omega)
        have hall := Lib.hid (And.intro hown (And.intro hbn2 (And.intro hlen2 (And.intro hlpos t9))))
        clear hown R8 R9 hRK h97 t7 t8 t9 hbn2 hlen2 hlpos hset hstep hB1 hO hB hnb hP hP2 hk hout1
        go_upto_region 14 with fail
        go_region
        go_wp2
        exact ⟨⟨i + 1, _, lstep out nb ⟨xa, xf, xt, xl⟩, some ⟨xa, xf, xt, xl⟩, by omega, by simp, rfl, Lib.hid ⟨hall.out.1, hall.out.2.1, by have := hall.out.2.2.1; omega, hG2.out, .inr ⟨i, hlt, rfl, by rw [hx.out], hall.out.2.2.2.1⟩⟩, hall.out.2.2.2.2⟩, by simp [intOf]; omega⟩
      · obtain rfl : i = S.length := by omega
        obtain ⟨hO, _, _, hG, _⟩ := hI.out
        rw [List.drop_length] at hG
        have hout : out = lgo none [] S := hG
        have hOw : OwnK w wr _ out := OwnK.mono hO t3.size
        have htw := t3.trans' ht
        have hfin := Lib.hid (And.intro hOw htw)
        have hr2 : res = (out, 0) := by rw [hres.out, hout]
        subst hr2
        clear hO hI hG hout hOw htw hsl hC hCl hsort hSb hS
        go_wp2
        go_ret2
        exact ⟨_, rfl, hfin.out.1, hfin.out.2⟩
  · rw [if_pos he] at hres
    subst hres
    have e1 : (e == 0) = false := by simp [he]
    have e2 : (e != 0) = true := by simp [he]
    replace hC := Lib.hid hC
    clear hq hsort hM hsl hv
    go_enter Try.func12, Try.ntmps12
    go_wp2_with (first | (go_at_call 21; refine (hC.out _ (Touch.refl _ _)).mono ?_; rintro r w1 ⟨rfl, t1⟩))
    go_ret2
    exact ⟨_, rfl, .inl ⟨rfl, rfl⟩, t1⟩

end Go.Proofs.Ytkoplgpobagfoaa
