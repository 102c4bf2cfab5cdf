/-
  Layer 27: frames that are appended, the words of bytes, Decode, walked.
-/
import Derived.Test.YtkoplgpobagfoaaVm
namespace Go.Proofs.Ytkoplgpobagfoaa
open Go.RowKit
set_option linter.unusedVariables false
set_option linter.unusedSimpArgs false

/-! ### A row of frames of one's own -/

def flat (L : List Fr) : List Value := L.flatMap frCs

theorem frCs_len (x : Fr) : (frCs x).length = 4 := rfl
theorem flat_len (L : List Fr) : (flat L).length = L.length * 4 := by
  unfold flat
  induction L with
  | nil => rfl
  | cons x r ih => rw [List.flatMap_cons, List.length_append, frCs_len, ih, List.length_cons]; omega
theorem flat_append (L M : List Fr) : flat (L ++ M) = flat L ++ flat M := by unfold flat; rw [List.flatMap_append]
theorem flat_one (x : Fr) : flat [x] = frCs x := by unfold flat; simp

theorem flat_at (L : List Fr) (i j : Nat) (h : i < L.length) (hj : j < 4) : (flat L)[i * 4 + j]? = (frCs L[i])[j]? := by
  induction L generalizing i with
  | nil => simp at h
  | cons x r ih =>
    have e : flat (x :: r) = frCs x ++ flat r := by unfold flat; rw [List.flatMap_cons]
    rw [e]
    cases i with
    | zero => rw [Nat.zero_mul, Nat.zero_add, List.getElem?_append_left (by rw [frCs_len]; exact hj)]; rfl
    | succ i =>
      rw [List.getElem?_append_right (by rw [frCs_len]; omega), frCs_len, show (i + 1) * 4 + j - 4 = i * 4 + j by omega, ih i (by simpa using h)]
      rfl

theorem flat_one_cell (L : List Fr) : ∀ u ∈ flat L, u.oneCell' = true := by
  intro u hu
  obtain ⟨x, _, hx⟩ := List.mem_flatMap.1 hu
  unfold frCs at hx
  simp only [List.mem_cons, List.not_mem_nil, or_false] at hx
  rcases hx with rfl | rfl | rfl | rfl <;> rfl

theorem elt50 : Elt Try.prog 22 50 4 32 := Elt.mk' (z := .agg #[.int .i64 0, .int .i64 0, .int .i64 0, .int .i64 0]) Try.underlying22 (by kernel_rfl) rfl (by decide)

/-- v is a row of one's own (nothing of what was there in w0), and reads as these frames. -/
def OwnF (w0 w : World) (v : Value) (L : List Fr) : Prop := w.ownsRow 0 50 4 v L.length (flat L) ∧ ∀ b, v.ownBlock = some b → w0.heap.size ≤ b

theorem OwnF.nil (w0 w : World) : OwnF w0 w (.slice none 0 0) [] := ⟨⟨rfl, .inl ⟨rfl, rfl⟩⟩, fun b h => by cases h⟩

theorem OwnF.keep {w0 w w' : World} {v : Value} {L : List Fr} (h : OwnF w0 w v L) (ht : Touch Nothing w w') : OwnF w0 w' v L := ⟨ht.owns h.1 (fun _ _ q => q), h.2⟩

theorem OwnF.sl {w0 w : World} {v : Value} {L : List Fr} (h : OwnF w0 w v L) : ∃ p c, v = .slice p L.length c ∧ FrSl w p c L := by
  rcases h.1.2 with ⟨hv, h0⟩ | ⟨g, cap, cur, hv, _, hg, hnc, _, hcs, htk⟩
  · have : L = [] := List.eq_nil_of_length_eq_zero h0
    subst this
    exact ⟨none, 0, hv, Nat.zero_le _, fun i hi => by simp at hi⟩
  · refine ⟨_, _, hv, hnc, fun i hi => ⟨g, 0, rfl, fun j u hu => ?_⟩⟩
    have hj : j < 4 := (List.getElem?_eq_some_iff.1 hu).1
    have hc := h.1.cells (g := g) (by rw [hv]; rfl) (i * 4 + j) u (by rw [flat_at L i j hi hj]; exact hu)
    rw [Addr.add_lit] at hc
    rw [Nat.zero_add]
    simpa using hc

theorem OwnF.lt {w0 w : World} {v : Value} {L : List Fr} {g : Nat} (h : OwnF w0 w v L) (q : v.ownBlock = some g) : g < w.heap.size := by
  rcases h.1.2 with ⟨hv, h0⟩ | ⟨g', cap, cur, hv, _, hg, _⟩
  · rw [hv] at q; cases q
  · rw [hv] at q
    obtain rfl : g' = g := by simpa [Value.ownBlock] using q
    exact lt_of_heap hg

/-- append(v, y). -/
theorem wp_app1 {o : Oper} {a : Act} {w w0 : World} {K : Act → World → Prop} {Q : Exit → Act → World → Prop} (s x : Operand)
    (ho : o.op = .call { callee := .builtin .append, args := #[s, x], argTypes := #[22, 22] }) {v : Value} {L : List Fr} {y : Fr} {g : Nat} (hs : a.eval s = v) (hO : OwnF w0 w v L) (hx : a.eval x = .slice (some ⟨g, 0, none⟩) 1 1)
    (hg : w.heap[g]? = some (.cells (frCs y).toArray 50)) (ht : Touch Nothing w0 w) (hn : (L.length + 1) * 32 ≤ 140737488355328)
    (k : ∀ v' w', OwnF w0 w' v' (L ++ [y]) → Touch Nothing w0 w' → Touch (fun b => v.ownBlock = some b) w w' → K (a.put o.dst v') w') : o.wp Try.prog a w K Q := by
  refine wp_app elt50 s x ho hs hO.1 hx (m := 1) (news := frCs y) (.inr ⟨⟨g, 0, none⟩, 1, rfl, rfl, fun j u hu => ?_, flat_one y ▸ flat_one_cell [y]⟩) rfl (zs := flat (L ++ [y])) (by rw [flat_append, flat_one]) (by unfold maxLen; omega) hn ?_
  · rw [Addr.add_lit, Nat.zero_add, cell_blk hg j]
    simpa using hu
  · intro v' w' ho' hgr hor
    have t' := ht.grown hgr (fun b hb q => by have := hO.2 b q; omega)
    refine k v' w' ⟨by rw [List.length_append]; exact ho', fun b hb => ?_⟩ t' ((Touch.refl _ w).grown hgr (fun _ _ q => q))
    rcases hor with h | h
    · exact hO.2 b (by rw [← h]; exact hb)
    · rw [hb] at h
      obtain rfl : b = w.heap.size := by simpa using h
      exact ht.size

/-! ### Words -/

def gb (s : ByteArray) (i : Nat) : UInt8 := s.data.toList.getD i 0
def wordAt (s : ByteArray) (k : Nat) : Int := (((gb s k).toNat * 16777216 + (gb s (k + 1)).toNat * 65536 + (gb s (k + 2)).toNat * 256 + (gb s (k + 3)).toNat : Nat) : Int)

theorem gb_get (s : ByteArray) (i : Nat) (h : i < s.size) : s[i] = gb s i := by
  unfold gb
  have : i < s.data.toList.length := by rw [Array.length_toList]; exact h
  rw [List.getD_eq_getElem?_getD, List.getElem?_eq_getElem this]
  rfl

theorem ext_list (s : ByteArray) (a b : Nat) : (s.extract a b).data.toList = (s.data.toList.drop a).take (b - a) := by
  simp [List.extract_eq_take_drop]

theorem gb_ext (s : ByteArray) (a i : Nat) : gb (s.extract a s.size) i = gb s (a + i) := by
  unfold gb
  rw [ext_list, List.take_of_length_le (by rw [List.length_drop, Array.length_toList]; exact Nat.le_refl _), List.getD_eq_getElem?_getD, List.getElem?_drop, List.getD_eq_getElem?_getD]

theorem wordAt_ext (s : ByteArray) (a k : Nat) : wordAt (s.extract a s.size) k = wordAt s (a + k) := by
  unfold wordAt
  simp only [gb_ext, Nat.add_assoc]

theorem w64 (n : Int) (h0 : 0 ≤ n) (h1 : n < 9223372036854775808) : wrap64 n = n := by unfold wrap64; omega

theorem four_w (a b c d : UInt8) : bits .or .i64 (bits .or .i64 (bits .or .i64 (wrap64 (wrap64 (a.toNat : Int) * 16777216)) (wrap64 (wrap64 (b.toNat : Int) * 65536))) (wrap64 (wrap64 (c.toNat : Int) * 256))) (wrap64 (d.toNat : Int)) = ((a.toNat * 16777216 + b.toNat * 65536 + c.toNat * 256 + d.toNat : Nat) : Int) := by
  have := a.toNat_lt; have := b.toNat_lt; have := c.toNat_lt; have := d.toNat_lt
  rw [w64 (a.toNat : Int) (by omega) (by omega), w64 (b.toNat : Int) (by omega) (by omega), w64 (c.toNat : Int) (by omega) (by omega), w64 (d.toNat : Int) (by omega) (by omega)]
  rw [w64 ((a.toNat : Int) * 16777216) (by omega) (by omega), w64 ((b.toNat : Int) * 65536) (by omega) (by omega), w64 ((c.toNat : Int) * 256) (by omega) (by omega)]
  exact or_four a b c d

set_option maxRecDepth 100000 in
set_option maxHeartbeats 1600000 in
theorem word_any (w : World) (s : ByteArray) (h : 4 ≤ s.size) : Calls Try.prog 39 #[.string s] w fun r w' => r = .returned (.int .i64 (wordAt s 0)) ∧ Touch Nothing w w' := by
  have e0 := gb_get s 0 (by omega)
  have e1 := gb_get s 1 (by omega)
  have e2 := gb_get s 2 (by omega)
  have e3 := gb_get s 3 (by omega)
  have h0 : (0 : Int) < (s.size : Int) := by omega
  have h1 : (1 : Int) < (s.size : Int) := by omega
  have h2 : (2 : Int) < (s.size : Int) := by omega
  have h3 : (3 : Int) < (s.size : Int) := by omega
  have i0 : 0 < s.size := by omega
  have i1 : 1 < s.size := by omega
  have i2 : 2 < s.size := by omega
  have i3 : 3 < s.size := by omega
  have hfin := Lib.hid (four_w (gb s 0) (gb s 1) (gb s 2) (gb s 3))
  have hw : wordAt s 0 = (((gb s 0).toNat * 16777216 + (gb s 1).toNat * 65536 + (gb s 2).toNat * 256 + (gb s 3).toNat : Nat) : Int) := rfl
  rw [hw]
  clear hw
  go_enter Try.func39, Try.ntmps39
  go_wp2_with fail
  go_quiet (fail)
  go_wp2
  go_ret
  exact ⟨congrArg (fun n => Ending.returned (Value.int .i64 n)) hfin.out, (Touch.refl _ _).drewN _⟩

end Go.Proofs.Ytkoplgpobagfoaa
