/-
  Layer 27: the law ViewJoins, walked.
-/
import Derived.Test.YtkoplgpobagfoaaVo
import Derived.Test.YtkoplgpobagfoaaJr
import Derived.Test.YtkoplgpobagfoaaLc
namespace Go.Proofs.Ytkoplgpobagfoaa
open Go.RowKit
set_option linter.unusedVariables false
set_option linter.unusedSimpArgs false

theorem elt22 : Elt Try.prog 54 22 1 24 := Elt.mk' (z := .slice none 0 0) Try.underlying54 (by kernel_rfl) rfl (by decide)

/-- v is a row of views of one's own. -/
def OwnV (w0 w : World) (v : Value) (vs : List Value) : Prop := w.ownsRow 0 22 1 v vs.length vs ∧ ∀ b, v.ownBlock = some b → w0.heap.size ≤ b
theorem OwnV.nil (w0 w : World) : OwnV w0 w (.slice none 0 0) [] := ⟨⟨rfl, .inl ⟨rfl, rfl⟩⟩, fun b h => by cases h⟩
theorem OwnV.keep {w0 w w' : World} {v : Value} {vs : List Value} (h : OwnV w0 w v vs) (ht : Touch Nothing w w') : OwnV w0 w' v vs := ⟨ht.owns h.1 (fun _ _ q => q), h.2⟩
theorem OwnV.keepF {F : Nat → Prop} {w0 w w' : World} {v : Value} {vs : List Value} (h : OwnV w0 w v vs) (ht : Touch F w w') (hf : ∀ b, v.ownBlock = some b → ¬ F b) : OwnV w0 w' v vs := ⟨ht.owns h.1 hf, h.2⟩
theorem OwnV.form {w0 w : World} {v : Value} {vs : List Value} (h : OwnV w0 w v vs) : ∃ p c, v = .slice p vs.length c ∧ vs.length ≤ c ∧ (∀ i (hi : i < vs.length), ∃ g, p = some ⟨g, 0, none⟩ ∧ w.cell? ⟨g, 0 + i, none⟩ = some vs[i]) ∧ ∀ b, v.ownBlock = some b → ∃ cs, w.heap[b]? = some (.cells cs 22 (0, 0)) := by
  rcases h.1.2 with ⟨hv, h0⟩ | ⟨g, cap, cur, hv, _, hg, hnc, _, hcs, htk⟩
  · have : vs = [] := List.eq_nil_of_length_eq_zero h0
    subst this
    exact ⟨none, 0, hv, Nat.zero_le _, fun i hi => by simp at hi, fun b hb => by rw [hv] at hb; cases hb⟩
  · refine ⟨_, cap, hv, hnc, fun i hi => ⟨g, rfl, ?_⟩, fun b hb => ?_⟩
    · have := h.1.cells (g := g) (by rw [hv]; rfl) i vs[i] (List.getElem?_eq_getElem hi)
      rw [Addr.add_lit] at this
      exact this
    · rw [hv] at hb
      obtain rfl : g = b := by simpa [Value.ownBlock] using hb
      exact ⟨cur, hg⟩

theorem wp_app54 {o : Oper} {a : Act} {w w0 : World} {K : Act → World → Prop} {Q : Exit → Act → World → Prop} (s x : Operand)
    (ho : o.op = .call { callee := .builtin .append, args := #[s, x], argTypes := #[54, 54] }) {v y : Value} {vs : List Value} {g : Nat} (hs : a.eval s = v) (hO : OwnV w0 w v vs) (hx : a.eval x = .slice (some ⟨g, 0, none⟩) 1 1)
    (hg : w.heap[g]? = some (.cells #[y] 22)) (h1 : y.oneCell' = true) (ht : Touch Nothing w0 w) (hn : (vs.length + 1) * 24 ≤ 140737488355328)
    (k : ∀ v' w', OwnV w0 w' v' (vs ++ [y]) → Touch Nothing w0 w' → Touch (fun b => v.ownBlock = some b) w w' → K (a.put o.dst v') w') : o.wp Try.prog a w K Q := by
  refine wp_app elt22 s x ho hs hO.1 hx (m := 1) (news := [y]) (.inr ⟨⟨g, 0, none⟩, 1, rfl, rfl, fun j u hu => ?_, fun u hu => ?_⟩) rfl (zs := vs ++ [y]) rfl (by unfold maxLen; omega) hn ?_
  · rw [Addr.add_lit, Nat.zero_add, cell_blk hg j]
    simpa using hu
  · rw [List.mem_singleton.1 hu]; exact h1
  · intro v' w' ho' hgr hor
    have t' := ht.grown hgr (fun b hb q => by have := hO.2 b q; omega)
    refine k v' w' ⟨by rw [List.length_append]; exact ho', fun b hb => ?_⟩ t' ((Touch.refl _ w).grown hgr (fun _ _ q => q))
    rcases hor with h | h
    · exact hO.2 b (by rw [← h]; exact hb)
    · rw [hb] at h
      obtain rfl : b = w.heap.size := by simpa using h
      exact ht.size

/-- Views that were lent. -/
def Lents (w0 w : World) (vs : List Value) (Ls : List (List Fr)) : Prop :=
  vs.length = Ls.length ∧ ∀ i (h1 : i < vs.length) (h2 : i < Ls.length), ∃ g d, vs[i] = .slice (some ⟨g, 0, none⟩) Ls[i].length d ∧ Lent w g d Ls[i] ∧ w0.heap.size ≤ g
theorem Lents.keep {F : Nat → Prop} {w0 w w' : World} {vs : List Value} {Ls : List (List Fr)} (h : Lents w0 w vs Ls) (ht : Touch F w w') (hf : ∀ g cs, w.heap[g]? = some (.cells cs 50 (0, 0)) → ¬ F g) : Lents w0 w' vs Ls :=
  ⟨h.1, fun i h1 h2 => by
    obtain ⟨g, d, e, hl, hg⟩ := h.2 i h1 h2
    exact ⟨g, d, e, hl.keep ht (by obtain ⟨ex, hx⟩ := hl.1; exact hf g _ hx), hg⟩⟩
theorem Lents.nil (w0 w : World) : Lents w0 w [] [] := ⟨rfl, fun i h1 => by simp at h1⟩
theorem Lents.snoc {w0 w : World} {vs : List Value} {Ls : List (List Fr)} {L : List Fr} {g d : Nat} (h : Lents w0 w vs Ls) (hl : Lent w g d L) (hg : w0.heap.size ≤ g) : Lents w0 w (vs ++ [.slice (some ⟨g, 0, none⟩) L.length d]) (Ls ++ [L]) := by
  refine ⟨by simp [h.1], fun i h1 h2 => ?_⟩
  by_cases hi : i < vs.length
  · have hi2 : i < Ls.length := by rw [← h.1]; exact hi
    rw [List.getElem_append_left hi, List.getElem_append_left hi2]
    exact h.2 i hi hi2
  · have e : i = vs.length := by simp at h1; omega
    subst e
    have e2 : vs.length = Ls.length := h.1
    refine ⟨g, d, ?_, ?_, hg⟩
    · simp [e2]
    · have : (Ls ++ [L])[vs.length] = L := by simp [e2]
      rw [this]; exact hl
theorem Lents.vws {w0 w : World} {v : Value} {vs : List Value} {Ls : List (List Fr)} (h : Lents w0 w vs Ls) (hO : OwnV w0 w v vs) : ∃ p c, v = .slice p (vs.zip Ls).length c ∧ Vws w p c (vs.zip Ls) ∧ (vs.zip Ls).map Prod.snd = Ls := by
  obtain ⟨p, c, hv, hc, hi, _⟩ := hO.form
  have hl : (vs.zip Ls).length = vs.length := by rw [List.length_zip, h.1]; omega
  refine ⟨p, c, by rw [hl]; exact hv, ⟨by rw [hl]; exact hc, fun i h1 => ?_⟩, List.map_snd_zip (by rw [h.1]; exact Nat.le_refl _)⟩
  have h2 : i < vs.length := by rw [hl] at h1; exact h1
  have h3 : i < Ls.length := by rw [← h.1]; exact h2
  have e : (vs.zip Ls)[i] = (vs[i], Ls[i]) := by simp
  rw [e]
  obtain ⟨g, e1, hcell⟩ := hi i h2
  obtain ⟨g2, d, e2, hlent, _⟩ := h.2 i h2 h3
  refine ⟨⟨g, 0, e1, hcell⟩, ?_⟩
  simp only []
  rw [e2]
  exact hlent.toA

theorem cf16 (args : Array Value) (w : World) : (callFunc 16 args).run Try.prog w = .ok (.enter 16 args) w := by kernel_rfl

theorem run_ia54 {a : Act} {w : World} {op : Oper} {x y : Operand} {g o n c : Nat} {z : Int} (j : Nat) (ho : op.op = .indexAddr 54 x y) (hx : a.eval x = .slice (some ⟨g, o, none⟩) n c) (hy : a.eval y = .int .i64 z) (hz : z = (j : Int)) (h : j < n) :
    (execOp a.eval op).run Try.prog w = .ok (.value (.pointer (some ⟨g, o + j, none⟩))) w := by
  subst hz
  have h0 : (0 : Int) ≤ (j : Int) := by omega
  have h1 : (j : Int) < (n : Int) := by omega
  unfold execOp
  simp only [ho, hx, hy]
  go_simp
theorem run_ld22 {a : Act} {w : World} {op : Oper} {x : Operand} {g o : Nat} {v : Value} (ho : op.op = .load 22 x) (hx : a.eval x = .pointer (some ⟨g, o, none⟩)) (hc : w.cell? ⟨g, o, none⟩ = some v) :
    (execOp a.eval op).run Try.prog w = .ok (.value v) w := by
  unfold execOp
  simp only [ho, hx]
  go_simp

theorem joinR_len (Ls : List (List Fr)) : (joinR Ls).1.length ≤ 65536 := by
  unfold joinR
  split
  · simp
  · split
    · simp
    · simp only [insS_len, lens_flat]
      omega

set_option maxRecDepth 100000 in
set_option maxHeartbeats 6400000 in
theorem viewJoins_walk (w : World) (p : Option Addr) (c : Nat) (ts : List (Value × List Fr)) (h : Vws w p c ts) (hb : ∀ i (h : i < ts.length), ts[i].2.length * 32 ≤ 140737488351232) (hl : ts.length * 24 ≤ 140737488351232) :
    Calls Try.prog 8 #[.slice p ts.length c] w fun r w' => r = .returned (.bool true) ∧ Touch Nothing w w' := by
  obtain ⟨n, hnl⟩ : ∃ n, n = ts.length := ⟨_, rfl⟩
  obtain ⟨Ls, hLs⟩ : ∃ Ls, Ls = ts.map Prod.snd := ⟨_, rfl⟩
  have hll : Ls.length = n := by rw [hLs, List.length_map, hnl]
  have hgi : ∀ i (h1 : i < ts.length) (h2 : i < Ls.length), ts[i].2 = Ls[i] := fun i h1 h2 => by subst hLs; simp
  have hRef : ∀ w', Touch Nothing w w' → Calls Try.prog 31 #[.slice p ts.length c] w' (RowPost w' (joinR Ls)) := fun w' ht => by
    rw [hLs]; exact Join_ref w' p c ts (h.keep ht) (by omega)
  have hW := Lib.hid (fun w => works_any w)
  rw [← hnl] at hl hRef ⊢
  replace h := Lib.hid h
  replace hb := Lib.hid hb
  replace hnl := Lib.hid hnl
  replace hLs := Lib.hid hLs
  replace hll := Lib.hid hll
  replace hgi := Lib.hid hgi
  replace hRef := Lib.hid hRef
  go_enter Try.func8, Try.ntmps8
  go_wp2
  go_loopw [3, 4] (fun ov iv wr => ∃ (v : Value) (vs : List Value) (i : Nat), i ≤ n ∧ ov = v ∧ iv = .int .i64 (i : Int) ∧ Hid (OwnV w wr v vs ∧ Lents w wr vs (Ls.take i)) ∧ Touch Nothing w wr) (fun _ iv _ => n - (intOf iv).toNat)
  case atStart => exact ⟨_, [], 0, Nat.zero_le _, rfl, rfl, Lib.hid ⟨OwnV.nil _ _, Lents.nil _ _⟩, Touch.refl _ _⟩
  case round =>
    obtain ⟨v, vs, i, hi, rfl, rfl, hI, ht⟩ := hrel
    by_cases hlt : i < n
    · have hit : i < ts.length := by rw [← hnl.out]; exact hlt
      have hiL : i < Ls.length := by rw [hll.out]; exact hlt
      obtain ⟨⟨g, o, rfl, hc⟩, hA⟩ := (h.out.keep ht).2 i hit
      have hbi := hb.out i hit
      have e3 := hgi.out i hit hiL
      rw [e3] at hA hbi
      obtain ⟨q, d, hv, hsl⟩ := hA.sl
      have hLd := lend_any wr _ Ls[i] hA hbi
      rw [hv] at hc hLd
      obtain ⟨hO, hLn⟩ := hI.out
      have hvl : vs.length = i := by rw [hLn.1, List.length_take, hll.out]; omega
      have hst : Ls.take (i + 1) = Ls.take i ++ [Ls[i]] := List.take_succ_eq_append_getElem hiL
      obtain ⟨L, hL⟩ : ∃ L, L = Ls[i] := ⟨_, rfl⟩
      rw [← hL] at hc hLd hst
      obtain ⟨m, hm⟩ : ∃ m, m = L.length := ⟨_, rfl⟩
      rw [← hm] at hc hLd
      have hroom := Lib.hid (show (vs.length + 1) * 24 ≤ 140737488355328 by omega)
      have x5 : (0 : Int) ≤ (i : Int) := by omega
      have x6 : (i : Int) < (n : Int) := by omega
      have x7 : IntKind.i64.wrap ((i : Int) + 1) = (i : Int) + 1 := by rw [IntKind.wrap_i64]; omega
      replace hLd := Lib.hid hLd
      replace hO := Lib.hid hO
      replace hLn := Lib.hid hLn
      replace hst := Lib.hid hst
      replace hm := Lib.hid hm
      replace hL := Lib.hid hL
      clear hI hA hbi e3 hsl hv
      go_wp2_with (first
        | (go_at_call 11; refine hLd.out.mono ?_; rintro r w2 ⟨g2, d2, rfl, hL2, hg2, t2⟩; have ta := (Touch.refl Nothing w2).alloc (.cells #[.slice (some ⟨g2, 0, none⟩) m d2] 22); have hg3 := Lib.hid (heap_new w2 (.cells #[.slice (some ⟨g2, 0, none⟩) m d2] 22)); have hOA := Lib.hid ((hO.out.keep t2).keep ta); have htA := Lib.hid ((ht.trans' t2).trans' ta); have hLA := Lib.hid ((hLn.out.keep t2 (fun _ _ _ q => q)).keep ta (fun _ _ _ q => q)); have hLB := Lib.hid (hL2.keep ta (fun q => q)); replace hg2 := Lib.hid (Nat.le_trans ht.size hg2); clear ta t2 hL2)
        | (at_builtin; refine wpList_plain rfl fun K hK => wp_app54 (y := .slice (some ⟨g2, 0, none⟩) m d2) (vs := vs) (.tmp 17) (.tmp 23) rfl rfl hOA.out rfl hg3.out rfl htA.out hroom.out (fun v' w' hO' t' tg => hK _ _ ?_); clear hK K; replace hO' := Lib.hid hO'; replace tg := Lib.hid tg))
      have hty := hOA.out.form
      have hLC : Lents w w' (vs ++ [.slice (some ⟨g2, 0, none⟩) m d2]) (Ls.take (i + 1)) := by
        have hne : ∀ g cs, (w2.alloc (.cells #[.slice (some ⟨g2, 0, none⟩) m d2] 22)).heap[g]? = some (.cells cs 50 (0, 0)) → ¬ (Value.ownBlock u3 = some g) := fun g cs h1 h2 => by
          obtain ⟨_, _, _, _, _, hb⟩ := hty
          obtain ⟨cs2, h3⟩ := hb g h2
          rw [h1] at h3
          have h5 := congrArg (fun o : Option Obj => match o with | some (.cells _ t _) => t | _ => 0) h3
          exact absurd (show (50 : Nat) = 22 from h5) (by decide)
        rw [hst.out, hm.out]
        refine Lents.snoc (hLA.out.keep tg.out hne) (hLB.out.keep tg.out ?_) hg2.out
        obtain ⟨ex, hx⟩ := hLB.out.1
        exact hne _ _ hx
      replace hLC := Lib.hid hLC
      clear hty hOA hLA hLB htA
      exact ⟨⟨_, _, i + 1, by omega, rfl, by simp, Lib.hid ⟨hO'.out, hLC.out⟩, t'⟩, by simp [intOf]; omega⟩
    · obtain ⟨hO, hLn⟩ := hI.out
      rw [List.take_of_length_le (by rw [hll.out]; omega)] at hLn
      obtain ⟨po, co, hv, hVw, hsnd⟩ := hLn.vws hO
      have hzl : (vs.zip Ls).length = n := by rw [List.length_zip, hLn.1, hll.out]; omega
      have hJ := Join_any wr po co (vs.zip Ls) hVw (by omega)
      rw [hsnd] at hJ
      rw [hzl] at hJ hv
      have hvl : vs.length = n := by rw [hLn.1, hll.out]
      obtain ⟨W1, eW1⟩ : ∃ W, W = wr := ⟨_, rfl⟩
      rw [← eW1] at ht hO hLn hJ ⊢
      clear eW1 hVw hsnd hzl hI wr
      subst hv
      have hRl := joinR_len Ls
      have hRf := hRef.out
      obtain ⟨⟨R, e⟩, hRe⟩ : ∃ x, x = joinR Ls := ⟨_, rfl⟩
      rw [← hRe] at hJ hRl
      have hRf2 : ∀ w', Touch Nothing w w' → Calls Try.prog 31 #[.slice p n c] w' (RowPost w' (R, e)) := fun w' ht => by rw [hRe]; exact hRf w' ht
      unfold RowPost at hJ hRf2
      simp only [] at hJ hRf2 hRl
      have hS := fun w' p q c d (h1 : FrSl w' p c R) (h2 : FrSl w' q d R) => same_any w' p q c d R R h1 h2 (by omega) true (by simp)
      have x1 : (e != e) = false := by simp
      obtain ⟨m, hm⟩ : ∃ m, m = R.length := ⟨_, rfl⟩
      rw [← hm] at hS
      have hws := ht.size
      have hown : ∀ b, (Value.slice po n co).ownBlock = some b → b < W1.heap.size := fun b hb => by
        obtain ⟨_, _, _, _, _, hq⟩ := hO.form
        obtain ⟨cs, h3⟩ := hq b hb
        exact lt_of_heap h3
      replace hO := Lib.hid hO
      replace hLn := Lib.hid hLn
      replace hJ := Lib.hid hJ
      replace hRf2 := Lib.hid hRf2
      replace hS := Lib.hid hS
      replace hm := Lib.hid hm
      replace hws := Lib.hid hws
      replace hown := Lib.hid hown
      replace hvl := Lib.hid hvl
      have k1 : ¬ (i : Int) < (n : Int) := by omega
      clear hRef hRf hRe hlt hi
      go_wp2_with (first
        | (go_at_call 30; refine hJ.out.mono ?_; rintro r w2 ⟨v2, rfl, hR2, t2⟩; replace hR2 := Lib.hid hR2; have T2 : Hid (Touch (fun k => W1.heap.size ≤ k) W1 w2) := Lib.hid (t2.mono fun _ _ q => q.elim); clear t2)
        | (go_at_call 31; refine (hRf2.out _ (ht.trans T2.out (fun i hi q => by have := hws.out; omega))).mono ?_; rintro r w3 ⟨v3, rfl, hR3, t3⟩; have T3 := Lib.hid (T2.out.none t3); obtain ⟨p2, c2, rfl, f2, fm⟩ := (hR2.out.keep t3 (fun _ _ q => q)).form; obtain ⟨p3, c3, rfl, f3⟩ := hR3.sl; rewrite [← hm.out]; replace f2 := Lib.hid f2; replace f3 := Lib.hid f3; replace fm := Lib.hid fm; clear hR2 hR3 T2 t3)
        | (go_at_call 20; refine (hS.out _ p2 p3 c2 c3 f2.out f3.out).mono ?_; rintro r w4 ⟨rfl, t4⟩; have T4 := Lib.hid (T3.out.none t4); replace t4 := Lib.hid t4))
      have fm4 : Hid (R = [] ∨ ∃ g, p2 = some ⟨g, 0, none⟩ ∧ RowF w4 g R ∧ W1.heap.size ≤ g) := Lib.hid (by
        rcases fm.out with h | ⟨g2, e, hr, hg⟩
        · exact .inl h
        · exact .inr ⟨g2, e, hr.keep t4.out (fun q => q), hg⟩)
      clear fm f2 f3 T3 t4 hJ hRf2 hS
      go_loopw [9] (fun iv wr => ∃ i : Nat, i ≤ m ∧ iv = .int .i64 (i : Int) ∧ Touch (fun k => W1.heap.size ≤ k) W1 wr ∧ Hid (R = [] ∨ ∃ g r, p2 = some ⟨g, 0, none⟩ ∧ RowF wr g r ∧ r.length = R.length ∧ W1.heap.size ≤ g)) (fun iv _ => m - (intOf iv).toNat)
      case atStart =>
        refine ⟨0, Nat.zero_le _, rfl, T4.out, Lib.hid ?_⟩
        rcases fm4.out with h | ⟨g2, e, hr, hg⟩
        · exact .inl h
        · exact .inr ⟨g2, R, e, hr, rfl, hg⟩
      case round =>
        obtain ⟨i, hi, rfl, hT, hf⟩ := hrel
        by_cases hlt : i < m
        · rcases hf.out with h | ⟨g2, r, e, hr, hrl, hg2⟩
          · exfalso
            have := hm.out
            subst h
            simp at this
            omega
          subst e
          have hrm : r.length = m := by rw [hm.out, hrl]
          have e3 : IntKind.i64.wrap ((i : Int) + 1) = (i : Int) + 1 := by rw [IntKind.wrap_i64]; have := hm.out; omega
          replace hr := Lib.hid hr
          clear fm4 hf T4
          go_upto_region 13 with fail
          refine wp_region_list ?_
          refine l_value rfl (run_move (v := .slice (some ⟨g2, 0, none⟩) m c2) rfl rfl) ?_
          simp only [Act.put, List.setIfInBounds_toArray, List.set_cons_zero, List.set_cons_succ]
          refine l_value rfl (run_move (v := .int .i64 (i : Int)) rfl rfl) ?_
          simp only [Act.put, List.setIfInBounds_toArray, List.set_cons_zero, List.set_cons_succ]
          refine l_value rfl (run_away rfl) ?_
          simp only [Act.put, List.setIfInBounds_toArray, List.set_cons_zero, List.set_cons_succ]
          refine l_value rfl (run_ia22 (z := (i : Int)) i rfl rfl rfl rfl hlt) ?_
          simp only [Act.put, List.setIfInBounds_toArray, List.set_cons_zero, List.set_cons_succ]
          refine wpList_plain rfl fun K hK => wp_stF rfl rfl rfl hr.out (by omega) (fun w8 hR8 t8 => hK _ _ ?_)
          clear hK K
          simp only [Act.put, List.setIfInBounds_toArray, List.set_cons_zero, List.set_cons_succ]
          refine wpList_nil ?_
          have hf2 : Hid (R = [] ∨ ∃ g r, (some ⟨g2, 0, none⟩ : Option Addr) = some ⟨g, 0, none⟩ ∧ RowF w8 g r ∧ r.length = R.length ∧ W1.heap.size ≤ g) := Lib.hid (.inr ⟨g2, r.set i away, rfl, hR8, by rw [List.length_set]; exact hrl, hg2⟩)
          have t9 := hT.trans t8 (fun k _ q => by subst q; exact hg2)
          clear hR8 t8
          go_wp2
          exact ⟨⟨i + 1, by omega, by simp, t9, hf2⟩, by simp [intOf]; omega⟩
        · have k2 : ¬ (i : Int) < (m : Int) := by omega
          clear fm4 hf T4 hlt hi
          go_wp2
          clear k2
          go_loopw [10] (fun iv wr => ∃ i : Nat, i ≤ n ∧ iv = .int .i64 (i : Int) ∧ Touch (fun k => W1.heap.size ≤ k) W1 wr) (fun iv _ => n - (intOf iv).toNat)
          case atStart => exact ⟨0, Nat.zero_le _, rfl, hT⟩
          case round =>
            clear hT
            obtain ⟨i, hi, rfl, hT⟩ := hrel
            by_cases hlt : i < n
            · have hit : i < ts.length := by rw [← hnl.out]; exact hlt
              have hiL : i < Ls.length := by rw [hll.out]; exact hlt
              have hiv : i < vs.length := by rw [hvl.out]; exact hlt
              have htw : Touch Nothing w wr := ht.trans hT (fun i hi q => by have := hws.out; omega)
              obtain ⟨⟨g, o, e1, hc⟩, hA⟩ := (h.out.keep htw).2 i hit
              subst e1
              have hbi := hb.out i hit
              rw [hgi.out i hit hiL] at hA hbi
              have hO2 := hO.out.keepF hT (fun b hb q => by have := hown.out b hb; omega)
              obtain ⟨p9, c9, hv9, _, hcell, _⟩ := hO2.form
              obtain ⟨g9, e9, hc9⟩ := hcell i hiv
              have hL2 := hLn.out.keep hT (fun g cs hg q => by have := lt_of_heap hg; omega)
              obtain ⟨gi, di, evi, hLi, _⟩ := hL2.2 i hiv hiL
              rw [evi] at hc9
              obtain ⟨u, hu⟩ : ∃ u, u = ts[i].1 := ⟨_, rfl⟩
              rw [← hu] at hc hA
              have hKp := fun w' (t : Touch Nothing wr w') => kept_any w' u Ls[i] gi di (hLi.keep t (fun q => q)) (hA.keep t (fun _ _ _ _ _ q => q)) (by omega)
              obtain ⟨mi, hmi⟩ : ∃ k, k = Ls[i].length := ⟨_, rfl⟩
              rw [← hmi] at hc9 hKp
              have e5 : (Value.slice po n co) = .slice (some ⟨g9, 0, none⟩) n co := by
                have h5 := hv9
                rw [e9] at h5
                injection h5 with h6 h7 h8
                rw [h6]
              injection e5 with e6
              subst e6
              have i1 : IntKind.i64.wrap ((i : Int) + 1) = (i : Int) + 1 := by rw [IntKind.wrap_i64]; omega
              replace hc := Lib.hid hc
              replace hc9 := Lib.hid hc9
              replace hKp := Lib.hid hKp
              replace hu := Lib.hid hu
              replace hmi := Lib.hid hmi
              clear hA hbi hO2 hv9 hcell hL2 evi hLi e9
              go_upto_region 17 with fail
              refine wp_region_held_drew (S := fun w' => Touch Nothing wr w') (by kernel_rfl) ((Touch.refl Nothing wr).drew) (fun hS0 => ?_)
              refine d_value (i := 0) rfl (by kernel_rfl) (by kernel_rfl) (by kernel_rfl) rfl (fun _ _ _ h => h) (fun w9 hS => run_move (v := .slice (some ⟨g9, 0, none⟩) n co) rfl rfl) hS0 ?_
              simp only [Act.put, List.setIfInBounds_toArray, List.set_cons_zero, List.set_cons_succ]
              refine d_value (i := 1) rfl (by kernel_rfl) (by kernel_rfl) (by kernel_rfl) rfl (fun _ _ _ h => h) (fun w9 hS => run_move (v := .int .i64 (i : Int)) rfl rfl) hS0 ?_
              simp only [Act.put, List.setIfInBounds_toArray, List.set_cons_zero, List.set_cons_succ]
              refine d_value (i := 2) rfl (by kernel_rfl) (by kernel_rfl) (by kernel_rfl) rfl (fun _ _ _ h => h) (fun w9 hS => run_ia54 i rfl rfl rfl rfl hlt) hS0 ?_
              simp only [Act.put, List.setIfInBounds_toArray, List.set_cons_zero, List.set_cons_succ]
              refine d_value (i := 3) rfl (by kernel_rfl) (by kernel_rfl) (by kernel_rfl) rfl (fun _ _ _ h => h) (fun w9 hS => run_ld22 rfl rfl (hS.cell hc9.out (fun q => q))) hS0 ?_
              simp only [Act.put, List.setIfInBounds_toArray, List.set_cons_zero, List.set_cons_succ]
              refine d_value (i := 4) rfl (by kernel_rfl) (by kernel_rfl) (by kernel_rfl) rfl (fun _ _ _ h => h) (fun w9 hS => run_move (v := .slice (some ⟨g, o, none⟩) n c) rfl rfl) hS0 ?_
              simp only [Act.put, List.setIfInBounds_toArray, List.set_cons_zero, List.set_cons_succ]
              refine d_value (i := 5) rfl (by kernel_rfl) (by kernel_rfl) (by kernel_rfl) rfl (fun _ _ _ h => h) (fun w9 hS => run_move (v := .int .i64 (i : Int)) rfl rfl) hS0 ?_
              simp only [Act.put, List.setIfInBounds_toArray, List.set_cons_zero, List.set_cons_succ]
              refine d_value (i := 6) rfl (by kernel_rfl) (by kernel_rfl) (by kernel_rfl) rfl (fun _ _ _ h => h) (fun w9 hS => run_ia54 i rfl rfl rfl rfl hlt) hS0 ?_
              simp only [Act.put, List.setIfInBounds_toArray, List.set_cons_zero, List.set_cons_succ]
              refine d_value (i := 7) rfl (by kernel_rfl) (by kernel_rfl) (by kernel_rfl) rfl (fun _ _ _ h => h) (fun w9 hS => run_ld22 rfl rfl (hS.cell hc.out (fun q => q))) hS0 ?_
              simp only [Act.put, List.setIfInBounds_toArray, List.set_cons_zero, List.set_cons_succ]
              refine d_call (args := #[.slice (some ⟨gi, 0, none⟩) mi di, u]) (i := 8) (by kernel_rfl) rfl rfl cf16 rfl _ rfl #[] rfl rfl (hKp.out _ hS0) (fun _ t => hS0.trans' t) (fun wn tn => ?_)
              simp only [Act.put, List.setIfInBounds_toArray, List.set_cons_zero, List.set_cons_succ]
              replace hS0 := hS0.trans' tn
              refine d_value (i := 9) rfl (by kernel_rfl) (by kernel_rfl) (by kernel_rfl) rfl (fun _ _ _ h => h) (fun w9 hS => run_not (b := true) rfl rfl) hS0 ?_
              simp only [Act.put, List.setIfInBounds_toArray, List.set_cons_zero, List.set_cons_succ]
              refine wpAnyH_done (by kernel_rfl) ?_ _
              have hT2 := hT.none hS0
              clear hS0 tn hT htw
              go_wp2
              exact ⟨⟨i + 1, by omega, by simp, hT2⟩, by simp [intOf]; omega⟩
            · have k2 : ¬ (i : Int) < (n : Int) := by omega
              have htw : Touch Nothing w wr := ht.trans hT (fun i hi q => by have := hws.out; omega)
              clear hT
              go_wp2_with (first | (go_at_call 17; refine (hW.out _).mono ?_; rintro r w10 ⟨rfl, t10⟩))
              go_ret
              exact ⟨rfl, htw.trans' t10⟩

theorem ViewJoins_walk (w : World) (a : Option Addr) (c : Nat) (ts : List (Value × List Fr)) (h : Vws w a c ts) (hb : ∀ i (h : i < ts.length), ts[i].2.length * 32 ≤ 140737488351232) (hl : ts.length * 24 ≤ 140737488351232) :
    Calls Try.prog 8 #[.slice a ts.length c] w fun r w' => r = .returned (.bool true) ∧ Below w.heap.size w w' :=
  (viewJoins_walk w a c ts h hb hl).mono fun r w' q => ⟨q.1, q.2.toBelow0 fun _ _ q => q⟩

end Go.Proofs.Ytkoplgpobagfoaa
