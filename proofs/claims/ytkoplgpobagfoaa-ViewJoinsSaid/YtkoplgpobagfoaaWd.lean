/-
  Layer 27: Between of the program and of the document, walked; SameInts.
-/
import Derived.Test.YtkoplgpobagfoaaWb
import Derived.Test.YtkoplgpobagfoaaVr
namespace Go.Proofs.Ytkoplgpobagfoaa
open Go.RowKit
set_option linter.unusedVariables false
set_option linter.unusedSimpArgs false

/-- v is nil, or a row that was not there in w0, and reads as these frames. -/
def RowA (w0 w : World) (v : Value) (L : List Fr) : Prop := (v = .slice none 0 0 ∧ L = []) ∨ ∃ g c, v = .slice (some ⟨g, 0, none⟩) L.length c ∧ RowF w g L ∧ L.length ≤ c ∧ w0.heap.size ≤ g

theorem RowA.sl {w0 w : World} {v : Value} {L : List Fr} (h : RowA w0 w v L) : ∃ p c, v = .slice p L.length c ∧ FrSl w p c L := by
  rcases h with ⟨rfl, rfl⟩ | ⟨g, c, rfl, hr, hc, _⟩
  · exact ⟨none, 0, rfl, Nat.zero_le _, fun i hi => by simp at hi⟩
  · exact ⟨_, c, rfl, hr.sl hc⟩

theorem RowA.keep {F : Nat → Prop} {w0 w w' : World} {v : Value} {L : List Fr} (h : RowA w0 w v L) (ht : Touch F w w') (hf : ∀ g, w0.heap.size ≤ g → ¬ F g) : RowA w0 w' v L := by
  rcases h with h | ⟨g, c, hv, hr, hc, hg⟩
  · exact .inl h
  · exact .inr ⟨g, c, hv, hr.keep ht (hf g hg), hc, hg⟩

def RowPost (w : World) (x : List Fr × Int) (r : Ending) (w' : World) : Prop :=
  ∃ v, r = .returned (.tuple #[v, .int .i64 x.2]) ∧ RowA w w' v x.1 ∧ Touch Nothing w w'

set_option maxRecDepth 100000 in
theorem delete_nil (w : World) (gf gt : Nat) (f t : Int) (hc : OutC w gf gt f t) :
    Calls Try.prog 44 #[.slice none 0 0, outV gf gt] w fun e w' => e = .returned (.slice none 0 0) ∧ Touch Nothing w w' := by
  have hI : Calls Try.prog 52 #[.slice none 0 0, outV gf gt] w fun e w' => e = .returned (.int .i64 (-1)) ∧ Touch Nothing w w' := by
    refine (index_any w none 0 [] ⟨Nat.zero_le _, fun i hi => by simp at hi⟩ gf gt f t hc (by simp)).mono ?_
    rintro r w' ⟨h1, ⟨rfl, _⟩ | ⟨i, hi, _⟩⟩
    · exact ⟨rfl, h1⟩
    · simp at hi
  unfold outV at hI ⊢
  replace hI := Lib.hid hI
  replace hc := Lib.hid hc
  go_enter Try.func44, Try.ntmps44
  go_wp2_with (go_at_call 52; refine hI.out.mono ?_; rintro e w1 ⟨rfl, ht1⟩)
  go_ret
  exact ⟨rfl, ht1⟩

theorem RowA.weak {w0 w1 w : World} {v : Value} {L : List Fr} (h : RowA w1 w v L) (hs : w0.heap.size ≤ w1.heap.size) : RowA w0 w v L := by
  rcases h with h | ⟨g, c, hv, hr, hc, hg⟩
  · exact .inl h
  · exact .inr ⟨g, c, hv, hr, hc, by omega⟩

theorem delete_row (w0 w : World) (v : Value) (M : List Fr) (h : RowA w0 w v M) (gf gt : Nat) (f t : Int) (hc : OutC w gf gt f t) (h1 : gf < w0.heap.size) (h2 : gt < w0.heap.size) (hl : M.length ≤ 65536) :
    Calls Try.prog 44 #[v, outV gf gt] w fun e w' => ∃ v', e = .returned v' ∧ RowA w0 w' v' (M.filter (inB f t)) ∧ Touch (fun k => w0.heap.size ≤ k) w w' := by
  rcases h with ⟨rfl, rfl⟩ | ⟨g, c, rfl, hr, hcc, hg⟩
  · refine (delete_nil w gf gt f t hc).mono ?_
    rintro e w' ⟨rfl, t'⟩
    exact ⟨_, rfl, .inl ⟨rfl, rfl⟩, t'.mono fun _ _ q => q.elim⟩
  · refine (delete_any w g c M hr hcc gf gt f t hc (by omega) (by omega) hl).mono ?_
    rintro e w' ⟨t', rfl, hr'⟩
    exact ⟨_, rfl, .inr ⟨g, c, rfl, hr', Nat.le_trans (List.length_filter_le _ _) hcc, hg⟩, t'.mono fun k _ q => by subst q; exact hg⟩

set_option maxRecDepth 100000 in
set_option maxHeartbeats 1600000 in
theorem Between_any (w : World) (v : Value) (M : List Fr) (hM : FrA w v M) (f t : Int) :
    Calls Try.prog 25 #[v, .int .i64 f, .int .i64 t] w (RowPost w (betR M f t)) := by
  obtain ⟨p, c, hv, hs⟩ := hM.sl
  have tA := ((Touch.refl Nothing w).alloc (.cells #[.int .i64 f] 3)).alloc (.cells #[.int .i64 t] 3)
  have oc : OutC ((w.alloc (.cells #[.int .i64 f] 3)).alloc (.cells #[.int .i64 t] 3)) w.heap.size (w.heap.size + 1) f t := by
    refine ⟨?_, ?_⟩
    · have h1 := heap_new w (.cells #[.int .i64 f] 3)
      have h2 := ((Touch.refl Nothing (w.alloc (.cells #[.int .i64 f] 3))).alloc (.cells #[.int .i64 t] 3)).heap h1 (fun q => q)
      exact cell_blk h2 0
    · have h1 := heap_new (w.alloc (.cells #[.int .i64 f] 3)) (.cells #[.int .i64 t] 3)
      rw [show (w.alloc (.cells #[.int .i64 f] 3)).heap.size = w.heap.size + 1 by simp] at h1
      exact cell_blk h1 0
  have hsz : ((w.alloc (.cells #[.int .i64 f] 3)).alloc (.cells #[.int .i64 t] 3)).heap.size = w.heap.size + 2 := by simp
  have hC := Check_any ((w.alloc (.cells #[.int .i64 f] 3)).alloc (.cells #[.int .i64 t] 3)) p c M (hs.keep tA (fun _ _ q => q))
  rw [← hv] at hC
  obtain ⟨⟨q, e⟩, hq⟩ : ∃ y, y = chkR M := ⟨_, rfl⟩
  have hres : betR M f t = if e ≠ 0 then ([], e) else if t < f then ([], 1) else (M.filter (inB f t), 0) := by unfold betR; rw [← hq]
  have hlen : e = 0 → M.length ≤ 65536 := fun h => by
    have : (chkR M).2 = 0 := by rw [← hq]; exact h
    unfold chkR at this
    by_cases hn : 65536 < M.length
    · rw [if_pos hn] at this; simp at this
    · omega
  rw [← hq] at hC
  simp only [] at hC
  obtain ⟨res, hr⟩ : ∃ x, x = betR M f t := ⟨_, rfl⟩
  rw [← hr] at hres ⊢
  clear hq hr hv hs
  obtain ⟨wa, hwa⟩ : ∃ wa, wa = (w.alloc (.cells #[.int .i64 f] 3)).alloc (.cells #[.int .i64 t] 3) := ⟨_, rfl⟩
  have oc2 := oc
  have tA2 := tA
  rw [← hwa] at hC oc2 tA2
  have hsz2 : wa.heap.size = w.heap.size + 2 := by rw [hwa]; exact hsz
  obtain ⟨o1, o2⟩ := oc
  have hC2 : Calls Try.prog 21 #[v] ((w.alloc (.cells #[.int .i64 f] 3)).alloc (.cells #[.int .i64 t] 3)) fun r w' => r = .returned (.tuple #[.int .i64 q, .int .i64 e]) ∧ Touch Nothing wa w' := by rw [← hwa]; exact hC
  replace hC2 := Lib.hid hC2
  clear hC
  replace hM := Lib.hid hM
  replace tA := Lib.hid tA
  replace tA2 := Lib.hid tA2
  replace oc2 := Lib.hid oc2
  replace hwa := Lib.hid hwa
  replace hsz := Lib.hid hsz
  replace hsz2 := Lib.hid hsz2
  by_cases he : e = 0
  · subst he
    rw [if_neg (by simp)] at hres
    replace hlen := Lib.hid (hlen rfl)
    by_cases hft : t < f
    · rw [if_pos hft] at hres
      subst hres
      go_enter Try.func25, Try.ntmps25
      go_wp2_with (first | (go_at_call 21; refine hC2.out.mono ?_; rintro r w1 ⟨rfl, t1⟩; have c1 := (oc2.out.keep t1 (fun q => q) (fun q => q)).1; have c2 := (oc2.out.keep t1 (fun q => q) (fun q => q)).2))
      go_ret2
      exact ⟨_, rfl, .inl ⟨rfl, rfl⟩, tA2.out.trans' t1⟩
    · rw [if_neg hft] at hres
      subst hres
      have hCl := Lib.hid (fun w' (t : Touch Nothing w w') => Clone_any w' v M (hM.out.keep t (fun _ _ _ _ _ q => q)) (by have := hlen.out; omega))
      go_enter Try.func25, Try.ntmps25
      go_wp2_with (first | (go_at_call 21; refine hC2.out.mono ?_; rintro r w1 ⟨rfl, t1⟩; have c1 := (oc2.out.keep t1 (fun q => q) (fun q => q)).1; have c2 := (oc2.out.keep t1 (fun q => q) (fun q => q)).2) | (go_at_call 33; refine (hCl.out _ (tA2.out.trans' t1)).mono ?_; rintro r w2 ⟨v2, rfl, hO, t2⟩; have hD := delete_row w1 w2 v2 M hO.row w.heap.size (w.heap.size + 1) f t ((oc2.out.keep t1 (fun q => q) (fun q => q)).keep t2 (fun q => q) (fun q => q)) (by have := t1.size; have := hsz2.out; omega) (by have := t1.size; have := hsz2.out; omega) hlen.out; unfold outV at hD; replace hD := Lib.hid hD; clear hO) | (go_at_call 44; refine hD.out.mono ?_; rintro r w3 ⟨v3, rfl, hR, t3⟩))
      go_ret2
      have ts := (tA2.out.trans' t1)
      exact ⟨_, rfl, hR.weak ts.size, (ts.trans' t2).trans t3 (fun i hi q => by have := ts.size; omega)⟩
  · rw [if_pos he] at hres
    subst hres
    have e1 : (e == 0) = false := by simp [he]
    have e2 : (e != 0) = true := by simp [he]
    go_enter Try.func25, Try.ntmps25
    go_wp2_with (first | (go_at_call 21; refine hC2.out.mono ?_; rintro r w1 ⟨rfl, t1⟩))
    go_ret2
    exact ⟨_, rfl, .inl ⟨rfl, rfl⟩, tA2.out.trans' t1⟩

set_option maxRecDepth 100000 in
set_option maxHeartbeats 1600000 in
theorem Between_ref (w : World) (p : Option Addr) (c : Nat) (M : List Fr) (hM : FrSl w p c M) (f t : Int) :
    Calls Try.prog 26 #[.slice p M.length c, .int .i64 f, .int .i64 t] w (RowPost w (betR M f t)) := by
  have hC := Check_ref w p c M hM
  obtain ⟨⟨q, e⟩, hq⟩ : ∃ y, y = chkR M := ⟨_, rfl⟩
  have hres : betR M f t = if e ≠ 0 then ([], e) else if t < f then ([], 1) else (M.filter (inB f t), 0) := by unfold betR; rw [← hq]
  have hlen : e = 0 → M.length ≤ 65536 := fun h => by
    have : (chkR M).2 = 0 := by rw [← hq]; exact h
    unfold chkR at this
    by_cases hn : 65536 < M.length
    · rw [if_pos hn] at this; simp at this
    · omega
  rw [← hq] at hC
  simp only [] at hC
  obtain ⟨res, hr⟩ : ∃ x, x = betR M f t := ⟨_, rfl⟩
  rw [← hr] at hres ⊢
  clear hq hr
  replace hC := Lib.hid hC
  replace hM := Lib.hid hM
  by_cases he : e = 0
  · subst he
    rw [if_neg (by simp)] at hres
    replace hlen := Lib.hid (hlen rfl)
    by_cases hft : t < f
    · rw [if_pos hft] at hres
      subst hres
      go_enter Try.func26, Try.ntmps26
      go_wp2_with (first | (go_at_call 22; refine hC.out.mono ?_; rintro r w1 ⟨rfl, t1⟩))
      go_ret2
      exact ⟨_, rfl, .inl ⟨rfl, rfl⟩, t1⟩
    · rw [if_neg hft] at hres
      subst hres
      go_enter Try.func26, Try.ntmps26
      go_wp2_with (first | (go_at_call 22; refine hC.out.mono ?_; rintro r w1 ⟨rfl, t1⟩))
      go_loopw [10, 11] (fun rv iv wr => ∃ (k : Nat) (v : Value), k ≤ M.length ∧ iv = .int .i64 (k : Int) ∧ rv = v ∧ Hid (OwnF w wr v ((M.take k).filter (inB f t))) ∧ Touch Nothing w wr) (fun _ iv _ => M.length - (intOf iv).toNat)
      case atStart => exact ⟨0, _, Nat.zero_le _, rfl, rfl, Lib.hid (OwnF.nil _ _), t1⟩
      case round =>
        obtain ⟨k, v, hk, rfl, rfl, hO, ht⟩ := hrel
        by_cases hlt : k < M.length
        · obtain ⟨g, o, rfl, hr⟩ := (hM.out.keep ht (fun _ _ q => q)).2 k hlt
          obtain ⟨x, hx⟩ : ∃ x, x = M[k] := ⟨_, rfl⟩
          rw [← hx] at hr
          have hrng := Lib.hid hr
          obtain ⟨xa, xf, xt, xl⟩ := x
          obtain ⟨c0, c1, c2, c3⟩ := fr_cells hr
          simp only [] at c0 c1 c2 c3
          have hk0 : (0 : Int) ≤ (k : Int) := by omega
          have hk1 : (k : Int) < (M.length : Int) := by omega
          have e3 : IntKind.i64.wrap ((k : Int) + 1) = (k : Int) + 1 := by rw [IntKind.wrap_i64]; have := hlen.out; omega
          have hst : (M.take (k + 1)).filter (inB f t) = (M.take k).filter (inB f t) ++ if inB f t ⟨xa, xf, xt, xl⟩ = true then [⟨xa, xf, xt, xl⟩] else [] := by
            rw [List.take_succ_eq_append_getElem hlt, List.filter_append, ← hx, List.filter_cons]; rfl
          have hll : ((M.take k).filter (inB f t)).length ≤ 65536 := Nat.le_trans (List.length_filter_le _ _) (by rw [List.length_take]; have := hlen.out; omega)
          replace hx := Lib.hid hx
          replace hst := Lib.hid hst
          replace hll := Lib.hid hll
          clear hr
          have no : ∀ b, inB f t ⟨xa, xf, xt, xl⟩ = b → b = false → Hid (OwnF w wr u10 ((M.take (k + 1)).filter (inB f t))) := fun b h h' => by
            subst h'
            rw [hst.out, h]
            simpa using hO
          replace no := Lib.hid no
          by_cases hf : f ≤ xa
          · by_cases htt : xa ≤ t
            · have hy : inB f t ⟨xa, xf, xt, xl⟩ = true := by unfold inB outB; simp; omega
              have hs2 := hst.out
              rw [hy, if_pos rfl] at hs2
              have ta := (Touch.refl Nothing wr).alloc (.cells #[.int .i64 xa, .int .i64 xf, .int .i64 xt, .int .i64 xl] 50)
              have hg := Lib.hid (heap_new wr (.cells (frCs ⟨xa, xf, xt, xl⟩).toArray 50))
              have hOA := Lib.hid (hO.out.keep ta)
              have htA := Lib.hid (ht.alloc (.cells #[.int .i64 xa, .int .i64 xf, .int .i64 xt, .int .i64 xl] 50))
              replace hs2 := Lib.hid hs2
              clear no hst hy ta
              go_wp2_with (first | (at_builtin; refine wpList_plain rfl fun K hK => wp_app1 (L := (M.take k).filter (inB f t)) (y := ⟨xa, xf, xt, xl⟩) (.tmp 45) (.tmp 50) rfl rfl hOA.out rfl hg.out htA.out (by have := hll.out; omega) (fun v' w' hO' t' tg => hK _ _ ?_); clear hK K; rewrite [← hs2.out] at hO'; replace hO' := Lib.hid hO'; clear tg))
              exact ⟨⟨k + 1, _, by omega, by simp, rfl, hO', t'⟩, by simp [intOf]; omega⟩
            · have hO2 := no.out _ rfl (by unfold inB outB; simp; omega)
              clear no
              go_wp2
              exact ⟨⟨k + 1, _, by omega, by simp, rfl, hO2, ht⟩, by simp [intOf]; omega⟩
          · have hO2 := no.out _ rfl (by unfold inB outB; simp; omega)
            clear no
            go_wp2
            exact ⟨⟨k + 1, _, by omega, by simp, rfl, hO2, ht⟩, by simp [intOf]; omega⟩
        · obtain rfl : k = M.length := by omega
          rw [List.take_length] at hO
          go_wp2
          go_ret2
          exact ⟨_, rfl, hO.out.row, ht⟩
  · rw [if_pos he] at hres
    subst hres
    have e1 : (e == 0) = false := by simp [he]
    have e2 : (e != 0) = true := by simp [he]
    go_enter Try.func26, Try.ntmps26
    go_wp2_with (first | (go_at_call 22; refine hC.out.mono ?_; rintro r w1 ⟨rfl, t1⟩))
    go_ret2
    exact ⟨_, rfl, .inl ⟨rfl, rfl⟩, t1⟩

end Go.Proofs.Ytkoplgpobagfoaa
