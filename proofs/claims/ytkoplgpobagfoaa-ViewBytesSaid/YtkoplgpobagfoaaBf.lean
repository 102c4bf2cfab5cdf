/-
  Layer 27: the bytes of a view: Bytes and Encode of the document, walked. Printed by mkbf.py.
-/
import Derived.Test.YtkoplgpobagfoaaBe
import Derived.BigRegion
namespace Go.Proofs.Ytkoplgpobagfoaa
open Go.RowKit
set_option linter.unusedVariables false
set_option linter.unusedSimpArgs false

/-- v is a row of bytes of one's own. -/
def OwnB (w0 w : World) (v : Value) (l : List UInt8) : Prop := w.ownsRow 0 5 1 v l.length (l.map byteV) ∧ ∀ b, v.ownBlock = some b → w0.heap.size ≤ b

theorem OwnB.nil (w0 w : World) : OwnB w0 w (.slice none 0 0) [] := ⟨⟨rfl, .inl ⟨rfl, rfl⟩⟩, fun b h => by cases h⟩
theorem OwnB.keep {w0 w w' : World} {v : Value} {l : List UInt8} (h : OwnB w0 w v l) (ht : Touch Nothing w w') : OwnB w0 w' v l := ⟨ht.owns h.1 (fun _ _ q => q), h.2⟩
theorem OwnB.lt {w0 w : World} {v : Value} {L : List UInt8} {g : Nat} (h : OwnB w0 w v L) (q : v.ownBlock = some g) : g < w.heap.size := (h.1.lt g q).2

theorem wp_appB {o : Oper} {a : Act} {w w0 : World} {K : Act → World → Prop} {Q : Exit → Act → World → Prop} (s x : Operand)
    (ho : o.op = .call { callee := .builtin .append, args := #[s, x], argTypes := #[72, 72] }) {v y : Value} {L M : List UInt8} (hs : a.eval s = v) (hO : OwnB w0 w v L) (hx : a.eval x = y) (hy : Src w y M.length 1 (M.map byteV))
    (ht : Touch Nothing w0 w) (hn : L.length + M.length ≤ 140737488355328)
    (k : ∀ v' w', OwnB w0 w' v' (L ++ M) → Touch Nothing w0 w' → Touch (fun b => v.ownBlock = some b) w w' → (∀ b, v'.ownBlock = some b → v.ownBlock = some b ∨ w.heap.size ≤ b) → K (a.put o.dst v') w') : o.wp Try.prog a w K Q := by
  refine wp_app u8s s x ho hs hO.1 hx hy rfl (zs := (L ++ M).map byteV) (by rw [List.map_append]) (by unfold maxLen; omega) (by omega) ?_
  intro v' w' ho' hgr hor
  have t' := ht.grown hgr (fun b hb q => by have := hO.2 b q; omega)
  refine k v' w' ⟨by rw [List.length_append]; exact ho', fun b hb => ?_⟩ t' ((Touch.refl _ w).grown hgr (fun _ _ q => q)) (fun b q => hor.elim (fun h => .inl (by rw [← h]; exact q)) (fun h => .inr (by rw [h] at q; cases q; exact Nat.le_refl _)))
  rcases hor with h | h
  · exact hO.2 b (by rw [← h]; exact hb)
  · rw [hb] at h
    obtain rfl : b = w.heap.size := by simpa using h
    exact ht.size

set_option maxRecDepth 100000 in
set_option maxHeartbeats 1600000 in
theorem Bytes_ref (w : World) (v : Value) (L : List Fr) (h : FrA w v L) (hlen : L.length ≤ 65536) :
    Calls Try.prog 43 #[v] w fun r w' => r = .returned (.string ⟨(encL L).toArray⟩) ∧ Touch Nothing w w' := by
  obtain ⟨p, c, rfl, hs⟩ := h.sl
  replace hs := Lib.hid hs
  replace hlen := Lib.hid hlen
  clear h
  go_enter Try.func43, Try.ntmps43
  go_wp2
  go_loopw [3, 4] (fun rv iv wr => ∃ (k : Nat) (v : Value), k ≤ L.length ∧ iv = .int .i64 (k : Int) ∧ rv = v ∧ Hid (OwnB w wr v (encL (L.take k))) ∧ Touch Nothing w wr) (fun _ iv _ => L.length - (intOf iv).toNat)
  case atStart => exact ⟨0, _, Nat.zero_le _, rfl, rfl, Lib.hid (OwnB.nil _ _), Touch.refl _ _⟩
  case round =>
    obtain ⟨k, v, hk, rfl, rfl, hO, ht⟩ := hrel
    by_cases hlt : k < L.length
    · obtain ⟨g, o, rfl, hc0⟩ := (hs.out.keep ht (fun _ _ q => q)).2 k hlt
      obtain ⟨⟨xa, xf, xt, xl⟩, hx⟩ : ∃ x, x = L[k] := ⟨_, rfl⟩
      rw [← hx] at hc0
      obtain ⟨c0, c1, c2, c3⟩ := fr_cells hc0
      simp only [] at c0 c1 c2 c3
      have hk0 : (0 : Int) ≤ (k : Int) := by omega
      have hlt2 : (k : Int) < (L.length : Int) := by omega
      replace hx := Lib.hid hx
      clear hc0
      go_upto_region 5 with fail
      go_region
      obtain ⟨wq, hwq⟩ : ∃ wq, wq = (wr.alloc (.cells #[.int .i64 xa, .int .i64 xf, .int .i64 xt, .int .i64 xl] 3)).drew := ⟨_, rfl⟩
      obtain ⟨gq, hgq⟩ : ∃ gq, gq = wr.heap.size := ⟨_, rfl⟩
      have hq : (wr.alloc (.cells #[.int .i64 xa, .int .i64 xf, .int .i64 xt, .int .i64 xl] 3)).drew.heap[wr.heap.size]? = _ := heap_new wr (.cells #[.int .i64 xa, .int .i64 xf, .int .i64 xt, .int .i64 xl] 3)
      have t1 := ((Touch.refl Nothing wr).alloc (.cells #[.int .i64 xa, .int .i64 xf, .int .i64 xt, .int .i64 xl] 3)).drew
      rewrite [← hwq, ← hgq] at hq
      rewrite [← hwq] at t1
      have ht2 := ht.trans' t1
      have hO2 := hO.out.keep t1
      have f0 : wq.cell? ⟨gq, 0, none⟩ = some (.int .i64 xa) := cell_blk hq 0
      have f1 : wq.cell? ⟨gq, 1, none⟩ = some (.int .i64 xf) := cell_blk hq 1
      have f2 : wq.cell? ⟨gq, 2, none⟩ = some (.int .i64 xt) := cell_blk hq 2
      have f3 : wq.cell? ⟨gq, 3, none⟩ = some (.int .i64 xl) := cell_blk hq 3
      have hne : ∀ b, u3.ownBlock = some b → b ≠ gq := fun b q => by have := hO.out.lt q; omega
      obtain ⟨pre, hpre⟩ : ∃ pre, pre = encL (L.take k) := ⟨_, rfl⟩
      have hpl : pre.length ≤ 1048576 := by rw [hpre, encL_len, List.length_take]; have := hlen.out; omega
      rw [← hpre] at hO2
      replace hpre := Lib.hid hpre
      replace hO2 := Lib.hid hO2
      replace hne := Lib.hid hne
      replace f0 := Lib.hid f0
      replace f1 := Lib.hid f1
      replace f2 := Lib.hid f2
      replace f3 := Lib.hid f3
      have hgw := Lib.hid (lt_of_heap hq)
      rewrite [← hwq, ← hgq]
      clear hq hwq t1 ht hO c0 c1 c2 c3 hgq
      go_wp2
      go_loopw [3, 6, 7] (fun rv jv _ wr => ∃ (m : Nat) (v : Value), m ≤ 4 ∧ jv = .int .i64 (m : Int) ∧ rv = v ∧ Hid (OwnB w wr v (pre ++ encW ⟨xa, xf, xt, xl⟩ m)) ∧ Touch Nothing w wr ∧ Hid (wr.cell? ⟨gq, 0, none⟩ = some (.int .i64 xa)) ∧ Hid (wr.cell? ⟨gq, 1, none⟩ = some (.int .i64 xf)) ∧ Hid (wr.cell? ⟨gq, 2, none⟩ = some (.int .i64 xt)) ∧ Hid (wr.cell? ⟨gq, 3, none⟩ = some (.int .i64 xl)) ∧ Hid (∀ b, v.ownBlock = some b → b ≠ gq) ∧ Hid (gq < wr.heap.size)) (fun _ jv _ _ => 4 - (intOf jv).toNat)
      case atStart => exact ⟨0, _, by omega, rfl, rfl, Lib.hid (by rw [encW, List.append_nil]; exact hO2.out), ht2, f0, f1, f2, f3, hne, hgw⟩
      case round =>
        clear f0 f1 f2 f3 hO2 ht2 hne hgw
        obtain ⟨m, v2, hm, rfl, rfl, hI, ht3, f0, f1, f2, f3, hne, hgw⟩ := hrel
        by_cases hm4 : m < 4
        · have hpl3 : (pre ++ encW ⟨xa, xf, xt, xl⟩ m).length + 4 ≤ 140737488355328 := by rw [List.length_append, encW_len]; omega
          have hst : ∀ X, X = wd ⟨xa, xf, xt, xl⟩ m → (pre ++ encW ⟨xa, xf, xt, xl⟩ m) ++ bytes4 X = pre ++ encW ⟨xa, xf, xt, xl⟩ (m + 1) := by
            rintro X rfl
            exact List.append_assoc _ _ _
          replace hst := Lib.hid hst
          replace hpl3 := Lib.hid hpl3
          rcases (by omega : m = 0 ∨ m = 1 ∨ m = 2 ∨ m = 3) with rfl | rfl | rfl | rfl
          · have hG := Lib.hid (hst.out xa rfl)
            have fm := f0.out
            have ta := (Touch.refl Nothing wr).alloc (.cells #[.int .u8 (xa / 16777216 % 256), .int .u8 (xa / 65536 % 256), .int .u8 (xa / 256 % 256), .int .u8 (xa % 256)] 5)
            replace ta := Lib.hid ta
            go_wp2_with (first | (at_builtin; refine wpList_plain rfl fun K hK => wp_appB (L := pre ++ encW ⟨xa, xf, xt, xl⟩ 0) (M := bytes4 xa) (.tmp 43) (.tmp 55) rfl rfl (hI.out.keep ta.out) rfl (SlB.src (SlB.made (bytes4_cells xa) (Nat.le_refl 4) (Touch.refl _ _)) rfl 4) (ht3.trans' ta.out) hpl3.out (fun v' w' hO' t' tg hob => hK _ _ ?_); clear hK K))
            rewrite [hG.out] at hO'
            have d0 := tg.cell (ta.out.cell f0.out (fun q => q)) (fun q => hne.out _ q rfl)
            have d1 := tg.cell (ta.out.cell f1.out (fun q => q)) (fun q => hne.out _ q rfl)
            have d2 := tg.cell (ta.out.cell f2.out (fun q => q)) (fun q => hne.out _ q rfl)
            have d3 := tg.cell (ta.out.cell f3.out (fun q => q)) (fun q => hne.out _ q rfl)
            exact ⟨⟨1, v', by omega, rfl, rfl, Lib.hid hO', t', Lib.hid d0, Lib.hid d1, Lib.hid d2, Lib.hid d3, Lib.hid (fun b q => (hob b q).elim (fun h => hne.out b h) (fun h => by have := hgw.out; have := ta.out.size; omega)), Lib.hid (by have := hgw.out; have := ta.out.size; have := tg.size; omega)⟩, by simp [intOf]⟩
          · have hG := Lib.hid (hst.out xf rfl)
            have fm := f1.out
            have ta := (Touch.refl Nothing wr).alloc (.cells #[.int .u8 (xf / 16777216 % 256), .int .u8 (xf / 65536 % 256), .int .u8 (xf / 256 % 256), .int .u8 (xf % 256)] 5)
            replace ta := Lib.hid ta
            go_wp2_with (first | (at_builtin; refine wpList_plain rfl fun K hK => wp_appB (L := pre ++ encW ⟨xa, xf, xt, xl⟩ 1) (M := bytes4 xf) (.tmp 43) (.tmp 55) rfl rfl (hI.out.keep ta.out) rfl (SlB.src (SlB.made (bytes4_cells xf) (Nat.le_refl 4) (Touch.refl _ _)) rfl 4) (ht3.trans' ta.out) hpl3.out (fun v' w' hO' t' tg hob => hK _ _ ?_); clear hK K))
            rewrite [hG.out] at hO'
            have d0 := tg.cell (ta.out.cell f0.out (fun q => q)) (fun q => hne.out _ q rfl)
            have d1 := tg.cell (ta.out.cell f1.out (fun q => q)) (fun q => hne.out _ q rfl)
            have d2 := tg.cell (ta.out.cell f2.out (fun q => q)) (fun q => hne.out _ q rfl)
            have d3 := tg.cell (ta.out.cell f3.out (fun q => q)) (fun q => hne.out _ q rfl)
            exact ⟨⟨2, v', by omega, rfl, rfl, Lib.hid hO', t', Lib.hid d0, Lib.hid d1, Lib.hid d2, Lib.hid d3, Lib.hid (fun b q => (hob b q).elim (fun h => hne.out b h) (fun h => by have := hgw.out; have := ta.out.size; omega)), Lib.hid (by have := hgw.out; have := ta.out.size; have := tg.size; omega)⟩, by simp [intOf]⟩
          · have hG := Lib.hid (hst.out xt rfl)
            have fm := f2.out
            have ta := (Touch.refl Nothing wr).alloc (.cells #[.int .u8 (xt / 16777216 % 256), .int .u8 (xt / 65536 % 256), .int .u8 (xt / 256 % 256), .int .u8 (xt % 256)] 5)
            replace ta := Lib.hid ta
            go_wp2_with (first | (at_builtin; refine wpList_plain rfl fun K hK => wp_appB (L := pre ++ encW ⟨xa, xf, xt, xl⟩ 2) (M := bytes4 xt) (.tmp 43) (.tmp 55) rfl rfl (hI.out.keep ta.out) rfl (SlB.src (SlB.made (bytes4_cells xt) (Nat.le_refl 4) (Touch.refl _ _)) rfl 4) (ht3.trans' ta.out) hpl3.out (fun v' w' hO' t' tg hob => hK _ _ ?_); clear hK K))
            rewrite [hG.out] at hO'
            have d0 := tg.cell (ta.out.cell f0.out (fun q => q)) (fun q => hne.out _ q rfl)
            have d1 := tg.cell (ta.out.cell f1.out (fun q => q)) (fun q => hne.out _ q rfl)
            have d2 := tg.cell (ta.out.cell f2.out (fun q => q)) (fun q => hne.out _ q rfl)
            have d3 := tg.cell (ta.out.cell f3.out (fun q => q)) (fun q => hne.out _ q rfl)
            exact ⟨⟨3, v', by omega, rfl, rfl, Lib.hid hO', t', Lib.hid d0, Lib.hid d1, Lib.hid d2, Lib.hid d3, Lib.hid (fun b q => (hob b q).elim (fun h => hne.out b h) (fun h => by have := hgw.out; have := ta.out.size; omega)), Lib.hid (by have := hgw.out; have := ta.out.size; have := tg.size; omega)⟩, by simp [intOf]⟩
          · have hG := Lib.hid (hst.out xl rfl)
            have fm := f3.out
            have ta := (Touch.refl Nothing wr).alloc (.cells #[.int .u8 (xl / 16777216 % 256), .int .u8 (xl / 65536 % 256), .int .u8 (xl / 256 % 256), .int .u8 (xl % 256)] 5)
            replace ta := Lib.hid ta
            go_wp2_with (first | (at_builtin; refine wpList_plain rfl fun K hK => wp_appB (L := pre ++ encW ⟨xa, xf, xt, xl⟩ 3) (M := bytes4 xl) (.tmp 43) (.tmp 55) rfl rfl (hI.out.keep ta.out) rfl (SlB.src (SlB.made (bytes4_cells xl) (Nat.le_refl 4) (Touch.refl _ _)) rfl 4) (ht3.trans' ta.out) hpl3.out (fun v' w' hO' t' tg hob => hK _ _ ?_); clear hK K))
            rewrite [hG.out] at hO'
            have d0 := tg.cell (ta.out.cell f0.out (fun q => q)) (fun q => hne.out _ q rfl)
            have d1 := tg.cell (ta.out.cell f1.out (fun q => q)) (fun q => hne.out _ q rfl)
            have d2 := tg.cell (ta.out.cell f2.out (fun q => q)) (fun q => hne.out _ q rfl)
            have d3 := tg.cell (ta.out.cell f3.out (fun q => q)) (fun q => hne.out _ q rfl)
            exact ⟨⟨4, v', by omega, rfl, rfl, Lib.hid hO', t', Lib.hid d0, Lib.hid d1, Lib.hid d2, Lib.hid d3, Lib.hid (fun b q => (hob b q).elim (fun h => hne.out b h) (fun h => by have := hgw.out; have := ta.out.size; omega)), Lib.hid (by have := hgw.out; have := ta.out.size; have := tg.size; omega)⟩, by simp [intOf]⟩
        · obtain rfl : m = 4 := by omega
          have hO4 : OwnB w wr u3 (encL (L.take (k + 1))) := by rw [encL_take L k hlt, ← hx.out, ← hpre.out, ← encW_four]; exact hI.out
          replace hO4 := Lib.hid hO4
          have e3 : IntKind.i64.wrap ((k : Int) + 1) = (k : Int) + 1 := by rw [IntKind.wrap_i64]; have := hlen.out; omega
          clear hI
          go_wp2
          exact ⟨⟨k + 1, u3, by omega, by simp, rfl, hO4, ht3⟩, by simp [intOf]; omega⟩
    · obtain rfl : k = L.length := by omega
      have hO2 := hO.out
      rw [List.take_length] at hO2
      obtain ⟨a, c2, hv⟩ := owns_slice hO2.1
      subst hv
      have kC := (owns_slB hO2.1).conv rfl 72 5 9 Try.underlying72 Try.underlying5 Try.underlying9 c2
      clear hO
      replace hO2 := Lib.hid hO2
      go_wp2
      go_ret
      exact ⟨rfl, ht⟩

set_option maxRecDepth 100000 in
theorem Encode_ref (w : World) (v : Value) (L : List Fr) (h : FrA w v L) :
    Calls Try.prog 24 #[v] w fun r w' => r = .returned (.tuple #[.string ⟨(encR L).1.toArray⟩, .int .i64 (encR L).2]) ∧ Touch Nothing w w' := by
  obtain ⟨p, c, hv, hs⟩ := h.sl
  have hC := Check_ref w p c L hs
  rw [← hv] at hC
  have hB := fun w' (ht : Touch Nothing w w') (hl : L.length ≤ 65536) => Bytes_ref w' v L (h.keep ht (fun _ _ _ _ _ q => q)) hl
  obtain ⟨q, e, hqe⟩ : ∃ q e, chkR L = (q, e) := ⟨_, _, rfl⟩
  have hres : encR L = if e = 0 then (encL L, 0) else ([], e) := by unfold encR; rw [hqe]
  rw [hqe] at hC
  simp only [] at hC
  have hlen := chk_len L
  rw [hqe] at hlen
  simp only [] at hlen
  obtain ⟨res, hr⟩ : ∃ x, x = encR L := ⟨_, rfl⟩
  rw [← hr] at hres ⊢
  replace hC := Lib.hid hC
  replace hB := Lib.hid hB
  clear h hqe hr hs hv
  by_cases he : e = 0
  · subst he
    rw [if_pos rfl] at hres
    replace hlen := Lib.hid (hlen rfl)
    replace hres := Lib.hid hres
    go_enter Try.func24, Try.ntmps24
    go_wp2_with (first | (go_at_call 22; refine hC.out.mono ?_; rintro r w1 ⟨rfl, t1⟩) | (go_at_call 43; refine (hB.out _ t1 hlen.out).mono ?_; rintro r w2 ⟨rfl, t2⟩))
    go_ret2
    exact ⟨by rw [hres.out]; rfl, t1.trans' t2⟩
  · rw [if_neg he] at hres
    subst hres
    have e1 : (e == 0) = false := by simp [he]
    have e2 : (e != 0) = true := by simp [he]
    go_enter Try.func24, Try.ntmps24
    go_wp2_with (first | (go_at_call 22; refine hC.out.mono ?_; rintro r w1 ⟨rfl, t1⟩))
    go_ret2
    exact ⟨rfl, t1⟩

end Go.Proofs.Ytkoplgpobagfoaa
