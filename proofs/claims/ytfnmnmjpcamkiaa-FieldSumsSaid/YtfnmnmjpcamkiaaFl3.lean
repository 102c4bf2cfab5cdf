/-
  Layer 1: the laws that reach the reference, walked: FieldChecks, FieldSums, FieldProducts, FieldTwos, FieldPowers. Printed by mkfl3.py.
-/
import Derived.Test.YtfnmnmjpcamkiaaRfa
import Derived.Test.YtfnmnmjpcamkiaaWks
import Derived.WalkSpells
namespace Go.Proofs.Ytfnmnmjpcamkiaa
open Go.RowKit
set_option linter.unusedVariables false
set_option linter.unusedSimpArgs false

theorem strs : Elt Try.prog 29 9 1 16 := Elt.mk' (z := .string ⟨#[]⟩) Try.underlying29 (by kernel_rfl) rfl (by decide)

theorem errV_tup (c : Int) : ∃ s d, errV c = .tuple #[.string s, .int .i64 d] := ⟨_, _, rfl⟩
theorem okV_tup (c : Int) : ∃ s d, okV c = .tuple #[.string s, .int .i64 d] := ⟨_, _, rfl⟩
theorem addR_tup (l : List ByteArray) : ∃ s d, addR l = .tuple #[.string s, .int .i64 d] := by unfold addR; split <;> exact ⟨_, _, rfl⟩
theorem mulR_tup (l : List ByteArray) : ∃ s d, mulR l = .tuple #[.string s, .int .i64 d] := by unfold mulR; split <;> exact ⟨_, _, rfl⟩
theorem subR_tup (a b : ByteArray) : ∃ s d, subR a b = .tuple #[.string s, .int .i64 d] := by unfold subR; split <;> exact ⟨_, _, rfl⟩
theorem sqR_tup (a : ByteArray) (n : Int) : ∃ s d, sqR a n = .tuple #[.string s, .int .i64 d] := by
  unfold sqR
  split
  · exact ⟨_, _, rfl⟩
  · split <;> exact ⟨_, _, rfl⟩
theorem invR_tup (a : ByteArray) : ∃ s d, (if chkC a ≠ 0 then errV (chkC a) else okV (invN (dec a))) = .tuple #[.string s, .int .i64 d] := by split <;> exact ⟨_, _, rfl⟩

set_option maxRecDepth 100000 in
theorem names_any (w : World) : Calls Try.prog 23 #[] w fun r w' => r = .returned (.bool true) ∧ Touch Nothing w w' := by
  go_enter Try.func23, Try.ntmps23
  go_wp2
  go_ret
  exact ⟨rfl, Touch.refl _ _⟩

set_option maxRecDepth 100000 in
set_option maxHeartbeats 1600000 in
theorem FieldTwos_walk (w : World) (x : ByteArray) (hx : x.size ≤ 140737488351232) (y : ByteArray) (hy : y.size ≤ 140737488351232) :
    Calls Try.prog 6 #[.string x, .string y] w fun r w' => r = .returned (.bool true) ∧ Below w.heap.size w w' := by
  have c1 := fun w => Sub_any w x y
  have c2 := fun w => Sub_ref w x y
  obtain ⟨s, d, e⟩ := subR_tup x y
  rw [e] at c1 c2
  clear e
  replace c1 := Lib.hid c1
  replace c2 := Lib.hid c2
  go_enter Try.func6, Try.ntmps6
  go_wp2_with (first | (go_at_call 31; refine (c1.out _).mono ?_; rintro r w1 ⟨rfl, t1⟩) | (go_at_call 32; refine (c2.out _).mono ?_; rintro r w2 ⟨rfl, t2⟩) | (go_at_call 26; refine (works_any _).mono ?_; rintro r w3 ⟨rfl, t3⟩))
  go_ret
  exact ⟨rfl, Touch.toBelow0 (F := Nothing) ((t1.trans' t2).trans' t3) fun _ _ q => q⟩

set_option maxRecDepth 100000 in
set_option maxHeartbeats 1600000 in
theorem FieldPowers_walk (w : World) (x : ByteArray) (hx : x.size ≤ 140737488351232) (n : Int) (hn : -9223372036854775808 ≤ n ∧ n ≤ 9223372036854775807) :
    Calls Try.prog 12 #[.string x, .int .i64 n] w fun r w' => r = .returned (.bool true) ∧ Below w.heap.size w w' := by
  have c1 := fun w => Inv_any w x
  have c2 := fun w => Inv_ref w x
  obtain ⟨s, d, e⟩ := invR_tup x
  rw [e] at c1 c2
  clear e
  have c3 := fun w => Square_any w x n
  have c4 := fun w => Square_ref w x n
  obtain ⟨u, v, e⟩ := sqR_tup x n
  rw [e] at c3 c4
  clear e
  replace c1 := Lib.hid c1
  replace c2 := Lib.hid c2
  replace c3 := Lib.hid c3
  replace c4 := Lib.hid c4
  go_enter Try.func12, Try.ntmps12
  go_wp2_with (first | (go_at_call 35; refine (c1.out _).mono ?_; rintro r w1 ⟨rfl, t1⟩) | (go_at_call 41; refine (c2.out _).mono ?_; rintro r w2 ⟨rfl, t2⟩) | (go_at_call 42; refine (c3.out _).mono ?_; rintro r w3 ⟨rfl, t3⟩) | (go_at_call 43; refine (c4.out _).mono ?_; rintro r w4 ⟨rfl, t4⟩) | (go_at_call 26; refine (works_any _).mono ?_; rintro r w5 ⟨rfl, t5⟩))
  go_ret
  exact ⟨rfl, Touch.toBelow0 (F := Nothing) ((((t1.trans' t2).trans' t3).trans' t4).trans' t5) fun _ _ q => q⟩

def redR (s : ByteArray) : Value := if 64 < s.size then errV 2 else okV (dec s % PP)
def smlR (n : Int) : Value := if 0 ≤ n ∧ n ≤ 2147483647 then okV n else errV 1
theorem redR_tup (a : ByteArray) : ∃ s d, redR a = .tuple #[.string s, .int .i64 d] := by unfold redR; split <;> exact ⟨_, _, rfl⟩
theorem smlR_tup (n : Int) : ∃ s d, smlR n = .tuple #[.string s, .int .i64 d] := by unfold smlR; split <;> exact ⟨_, _, rfl⟩
theorem Reduce_any (w : World) (s : ByteArray) : Calls Try.prog 19 #[.string s] w fun r w' => r = .returned (redR s) ∧ Touch Nothing w w' := by
  unfold redR
  by_cases h : 64 < s.size
  · rw [if_pos h]; exact reduce_no w s h
  · rw [if_neg h]; exact reduce_yes w s (by omega)
theorem Reduce_ref (w : World) (s : ByteArray) : Calls Try.prog 20 #[.string s] w fun r w' => r = .returned (redR s) ∧ Touch Nothing w w' := by
  unfold redR
  by_cases h : 64 < s.size
  · rw [if_pos h]; exact reduce_no_ref w s h
  · rw [if_neg h]; exact reduce_yes_ref w s (by omega)
theorem Small_go (w : World) (n : Int) : Calls Try.prog 21 #[.int .i64 n] w fun r w' => r = .returned (smlR n) ∧ Touch Nothing w w' := by
  unfold smlR
  by_cases h : 0 ≤ n ∧ n ≤ 2147483647
  · rw [if_pos h]; exact small_yes w n h.1 h.2
  · rw [if_neg h]; exact small_no w n (by omega)
theorem Whole_ref (w : World) (n : Int) : Calls Try.prog 22 #[.int .i64 n] w fun r w' => r = .returned (smlR n) ∧ Touch Nothing w w' := by
  unfold smlR
  by_cases h : 0 ≤ n ∧ n ≤ 2147483647
  · rw [if_pos h]; exact whole_yes w n h.1 h.2
  · rw [if_neg h]; exact whole_no w n (by omega)

set_option maxRecDepth 100000 in
set_option maxHeartbeats 1600000 in
theorem FieldChecks_walk (w : World) (a : ByteArray) (ha : a.size ≤ 140737488351232) (b : ByteArray) (hb : b.size ≤ 140737488351232) (n : Int) (hn : -9223372036854775808 ≤ n ∧ n ≤ 9223372036854775807) :
    Calls Try.prog 3 #[.string a, .string b, .int .i64 n] w fun r w' => r = .returned (.bool true) ∧ Below w.heap.size w w' := by
  have c1 := fun w => Reduce_any w b
  have c2 := fun w => Reduce_ref w b
  obtain ⟨s, d, e⟩ := redR_tup b
  rw [e] at c1 c2
  clear e
  have c3 := fun w => Small_go w n
  have c4 := fun w => Whole_ref w n
  obtain ⟨u, v, e⟩ := smlR_tup n
  rw [e] at c3 c4
  clear e
  have c5 := fun w => Check_any w a
  have c6 := fun w => Check_ref w a
  obtain ⟨q, hq⟩ : ∃ q, q = chkC a := ⟨_, rfl⟩
  rw [← hq] at c5 c6
  replace hq := Lib.hid hq
  replace c1 := Lib.hid c1
  replace c2 := Lib.hid c2
  replace c3 := Lib.hid c3
  replace c4 := Lib.hid c4
  replace c5 := Lib.hid c5
  replace c6 := Lib.hid c6
  go_enter Try.func3, Try.ntmps3
  go_wp2_with (first | (go_at_call 19; refine (c1.out _).mono ?_; rintro r w1 ⟨rfl, t1⟩) | (go_at_call 20; refine (c2.out _).mono ?_; rintro r w2 ⟨rfl, t2⟩) | (go_at_call 21; refine (c3.out _).mono ?_; rintro r w3 ⟨rfl, t3⟩) | (go_at_call 22; refine (c4.out _).mono ?_; rintro r w4 ⟨rfl, t4⟩) | (go_at_call 23; refine (names_any _).mono ?_; rintro r w5 ⟨rfl, t5⟩) | (go_at_call 24; refine (c5.out _).mono ?_; rintro r w6 ⟨rfl, t6⟩) | (go_at_call 25; refine (c6.out _).mono ?_; rintro r w7 ⟨rfl, t7⟩) | (go_at_call 26; refine (works_any _).mono ?_; rintro r w8 ⟨rfl, t8⟩))
  go_ret
  exact ⟨rfl, Touch.toBelow0 (F := Nothing) (((((((t1.trans' t2).trans' t3).trans' t4).trans' t5).trans' t6).trans' t7).trans' t8) fun _ _ q => q⟩

set_option maxRecDepth 100000 in
set_option maxHeartbeats 1600000 in
theorem FieldSums_walk (w : World) (v : Value) (ts : List ByteArray) (hv : StrA w v ts) (z : ∀ s ∈ ts, s.size ≤ 9223372036854775807) (l : ts.length * 16 ≤ 140737488351232) :
    Calls Try.prog 4 #[v] w fun r w' => r = .returned (.bool true) ∧ Below w.heap.size w w' := by
  obtain ⟨A, c, rfl, hsl, hsrc⟩ := hv.sl
  have hlen : ts.length ≤ 9223372036854775807 := by omega
  obtain ⟨s, d, e⟩ := addR_tup ts
  have c1 := fun w a c h => Add_any w a c ts h hlen
  have c2 := fun w a c h => Add_ref w a c ts h hlen
  rw [e] at c1 c2
  clear e
  replace c1 := Lib.hid c1
  replace c2 := Lib.hid c2
  replace hsl := Lib.hid hsl
  replace hsrc := Lib.hid hsrc
  clear z
  go_enter Try.func4, Try.ntmps4
  go_wp2_with (first
    | (at_builtin; refine wpList_app strs rfl (.tmp 8) (.tmp 9) rfl rfl (owns_empty w 9 1) rfl (hsrc.out.keep ((Touch.refl Nothing w).alloc _) (fun _ _ _ _ q => q)) (Nat.zero_add _) (List.nil_append _) (by unfold maxLen; omega) (by omega) ?_; intro v1 w1 ho hg hv2; have hb1 : Below w.heap.size w w1 := Below.grown ((Below.refl _ w).alloc (Nat.le_refl _) _) hg (by simp) (fun k hk => by have : w.heap.size = k := Option.some.inj hk; omega); obtain ⟨av, cv, rfl⟩ := owns_slice ho; have hso := owns_strSl ho; replace hso := Lib.hid hso; replace ho := Lib.hid ho; clear hg hv2)
    | (go_at_call 27; refine (c1.out _ _ _ hso.out).mono ?_; rintro r w2 ⟨rfl, t2⟩; have hsl2 := Lib.hid (hsl.out.keep ((Touch.ofBelow0 hb1).trans' t2) (fun _ _ q => q)))
    | (go_at_call 28; refine (c2.out _ _ _ hsl2.out).mono ?_; rintro r w3 ⟨rfl, t3⟩)
    | (go_at_call 26; refine (works_any _).mono ?_; rintro r w4 ⟨rfl, t4⟩))
  go_ret
  exact ⟨rfl, Touch.toBelow0 (F := Nothing) ((((Touch.ofBelow0 hb1).trans' t2).trans' t3).trans' t4) fun _ _ q => q⟩

set_option maxRecDepth 100000 in
set_option maxHeartbeats 1600000 in
theorem FieldProducts_walk (w : World) (v : Value) (ts : List ByteArray) (hv : StrA w v ts) (z : ∀ s ∈ ts, s.size ≤ 9223372036854775807) (l : ts.length * 16 ≤ 140737488351232) :
    Calls Try.prog 5 #[v] w fun r w' => r = .returned (.bool true) ∧ Below w.heap.size w w' := by
  obtain ⟨A, c, rfl, hsl, hsrc⟩ := hv.sl
  have hlen : ts.length ≤ 9223372036854775807 := by omega
  obtain ⟨s, d, e⟩ := mulR_tup ts
  have c1 := fun w a c h => Mul_any w a c ts h hlen
  have c2 := fun w a c h => Mul_ref w a c ts h hlen
  rw [e] at c1 c2
  clear e
  replace c1 := Lib.hid c1
  replace c2 := Lib.hid c2
  replace hsl := Lib.hid hsl
  replace hsrc := Lib.hid hsrc
  clear z
  go_enter Try.func5, Try.ntmps5
  go_wp2_with (first
    | (at_builtin; refine wpList_app strs rfl (.tmp 8) (.tmp 9) rfl rfl (owns_empty w 9 1) rfl (hsrc.out.keep ((Touch.refl Nothing w).alloc _) (fun _ _ _ _ q => q)) (Nat.zero_add _) (List.nil_append _) (by unfold maxLen; omega) (by omega) ?_; intro v1 w1 ho hg hv2; have hb1 : Below w.heap.size w w1 := Below.grown ((Below.refl _ w).alloc (Nat.le_refl _) _) hg (by simp) (fun k hk => by have : w.heap.size = k := Option.some.inj hk; omega); obtain ⟨av, cv, rfl⟩ := owns_slice ho; have hso := owns_strSl ho; replace hso := Lib.hid hso; replace ho := Lib.hid ho; clear hg hv2)
    | (go_at_call 29; refine (c1.out _ _ _ hso.out).mono ?_; rintro r w2 ⟨rfl, t2⟩; have hsl2 := Lib.hid (hsl.out.keep ((Touch.ofBelow0 hb1).trans' t2) (fun _ _ q => q)))
    | (go_at_call 30; refine (c2.out _ _ _ hsl2.out).mono ?_; rintro r w3 ⟨rfl, t3⟩)
    | (go_at_call 26; refine (works_any _).mono ?_; rintro r w4 ⟨rfl, t4⟩))
  go_ret
  exact ⟨rfl, Touch.toBelow0 (F := Nothing) ((((Touch.ofBelow0 hb1).trans' t2).trans' t3).trans' t4) fun _ _ q => q⟩

end Go.Proofs.Ytfnmnmjpcamkiaa
