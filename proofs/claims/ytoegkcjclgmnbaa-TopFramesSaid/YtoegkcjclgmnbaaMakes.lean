/-
  FrameMakes: the walk of the law, from the contracts.
-/
import Derived.Test.YtoegkcjclgmnbaaWk
import Derived.Test.YtoegkcjclgmnbaaRef
import Derived.Test.YtoegkcjclgmnbaaBulk
namespace Go.Proofs.Ytoegkcjclgmnbaa
open Go.RowKit
set_option linter.unusedVariables false
set_option linter.unusedSimpArgs false

theorem frLen_lt (l : List ByteArray) : l.length ≤ frLen l := by
  induction l with
  | nil => simp [frLen]
  | cons a r ih => simp [frLen] at ih ⊢; omega

set_option maxRecDepth 100000 in
set_option maxHeartbeats 1600000 in
theorem makes_walk (w : World) (v : Value) (ts : List ByteArray) (hv : StrA w v ts) (hsum : frLen ts ≤ 1099511627776) :
    Calls Try.prog 3 #[v] w fun e w' => e = .returned (.bool true) ∧ Below w.heap.size w w' := by
  obtain ⟨A, c, rfl, hsl, hsrc⟩ := hv.sl
  have hts := frLen_lt ts
  have hsum' := Lib.hid hsum
  have hlen : ts.length ≤ 1099511627776 := by omega
  have hb : ∀ p, A = some p → ts ≠ [] → p.block < w.heap.size := fun p e hne => by
    obtain ⟨g, o, ha, hc⟩ := hsl.2 0 (by cases ts; exact absurd rfl hne; simp)
    rw [e] at ha
    cases ha
    exact World.block_lt_of_cell? w _ hc
  have hR : ∀ w2, Below w.heap.size w w2 → Calls Try.prog 10 #[.slice A ts.length c] w2 fun e w' => e = .returned (.tuple #[.string ⟨(ofS ts).1.toArray⟩, .int .i64 (ofS ts).2]) ∧ Below w2.heap.size w2 w' := fun w2 h2 =>
    rof_any w2 A c ts ⟨hsl.1, fun i hi => by obtain ⟨g, o, ha, hc⟩ := hsl.2 i hi; exact ⟨g, o, ha, (Touch.ofBelow h2).cell hc (by have := World.block_lt_of_cell? w _ hc; simpa using this)⟩⟩ (by have := hsum; omega)
  replace hR := Lib.hid hR
  obtain ⟨s, hs⟩ : ∃ s : ByteArray, s = ⟨(ofS ts).1.toArray⟩ := ⟨_, rfl⟩
  obtain ⟨n, hn⟩ : ∃ n : Int, n = (ofS ts).2 := ⟨_, rfl⟩
  replace hs := Lib.hid hs
  replace hn := Lib.hid hn
  clear hts hb hsum
  go_enter Try.func3, Try.ntmps3
  go_wp2_with (first
    | (at_builtin; refine wpList_app strs rfl (.tmp 8) (.tmp 9) rfl rfl (owns_empty w 9 1) rfl (hsrc.keep ((Touch.refl Nothing w).alloc _) (fun _ _ _ _ q => q)) (Nat.zero_add _) (List.nil_append _) (by unfold maxLen; omega) (by omega) ?_; intro v1 w1 ho hg hv; have hb1 : Below w.heap.size w w1 := Below.grown ((Below.refl _ w).alloc (Nat.le_refl _) _) hg (by simp) (fun k hk => by have : w.heap.size = k := Option.some.inj hk; omega); obtain ⟨av, cv, rfl⟩ := owns_slice ho; clear hg hv)
    | (go_at_call 9; refine (of_any w1 av cv ts (owns_strSl ho) (by have := hsum'.out; omega)).mono ?_; rw [← hs.out, ← hn.out]; rintro e w2 ⟨rfl, hb2⟩; have hb2' := hb1.trans (hb2.mono (by have := hb1.size; omega)))
    | (go_at_call 10; refine (hR.out _ hb2').mono ?_; rw [← hs.out, ← hn.out]; rintro e w3 ⟨rfl, hb3⟩; have hb3' := hb2'.trans (hb3.mono (by have := hb2'.size; omega)))
    | (go_at_call 11; refine (works_any _).mono ?_; rintro e w4 ⟨rfl, hb4⟩))
  go_ret
  exact ⟨rfl, hb3'.trans (hb4.mono (by have := hb3'.size; omega))⟩

theorem frLen_bulk (l : List ByteArray) : frLen l ≤ 4 * strBulk l := by
  induction l with
  | nil => simp [frLen, strBulk]
  | cons a r ih => simp [frLen, strBulk] at ih ⊢; omega

theorem FrameMakes_walk (W : World) (v : Value) (ts : List ByteArray) (h : StrA W v ts) (z : ∀ s ∈ ts, s.size ≤ 9223372036854775807) (l : ts.length * 16 ≤ 140737488351232) (b : strBulk ts ≤ 1048576) :
    Calls Try.prog 3 #[v] W fun e w' => e = .returned (.bool true) ∧ Below W.heap.size W w' :=
  makes_walk W v ts h (by have := frLen_bulk ts; omega)

end Go.Proofs.Ytoegkcjclgmnbaa
