/-
  Layer 1: the field's calls at elements, and the laws' own helpers.
-/
import Derived.Test.YtfnmnmjpcamkiaaMul
import Derived.Test.YtfnmnmjpcamkiaaFrm
namespace Go.Proofs.Ytfnmnmjpcamkiaa
open Go.RowKit
set_option linter.unusedVariables false
set_option linter.unusedSimpArgs false

/-- An element. -/
def Rng (x : Int) : Prop := 0 ≤ x ∧ x < PP
def addZ (x y : Int) : Int := (x + y) % PP
def subZ (x y : Int) : Int := (x - y) % PP
def mulZ (x y : Int) : Int := x * y % PP

theorem rng_mod (x : Int) : Rng (x % PP) := ⟨Int.emod_nonneg _ (by decide), Int.emod_lt_of_pos _ (by decide)⟩
theorem rng_add (x y : Int) : Rng (addZ x y) := rng_mod _
theorem rng_sub (x y : Int) : Rng (subZ x y) := rng_mod _
theorem rng_mul (x y : Int) : Rng (mulZ x y) := rng_mod _
theorem rng_inv (x : Int) : Rng (invN x) := rng_mod _
theorem rng_sq (x : Int) (n : Nat) : Rng (sqN x n) := rng_mod _
theorem rng_small (n : Int) (h0 : 0 ≤ n) (h1 : n ≤ 2147483647) : Rng n := ⟨h0, by unfold PP; omega⟩

theorem dec_e {x : Int} (h : Rng x) : dec (enc x) = x := dec_enc x h.1 (by have := h.2; unfold PP at this; omega)

theorem chk_enc {x : Int} (h : Rng x) : chkC (enc x) = 0 := by
  unfold chkC
  rw [if_neg (by rw [enc_size]; simp), dec_e h, if_pos h.2]

theorem wr_of {l : List ByteArray} (h : ∀ s ∈ l, chkC s = 0) (hl : l.length ≤ 100) : wrC l = 0 := by
  have : wrongC l = 0 := by
    induction l with
    | nil => rfl
    | cons a r ih =>
      unfold wrongC
      rw [h a (by simp), if_neg (by simp)]
      exact ih (fun s hs => h s (by simp [hs])) (by simp at hl; omega)
  unfold wrC
  rw [this, if_neg (by simp), if_neg (by omega)]

theorem wr_two {x y : Int} (hx : Rng x) (hy : Rng y) : wrC [enc x, enc y] = 0 := wr_of (by intro s hs; simp at hs; rcases hs with rfl | rfl <;> exact chk_enc (by assumption)) (by simp)
theorem wr_three {x y z : Int} (hx : Rng x) (hy : Rng y) (hz : Rng z) : wrC [enc x, enc y, enc z] = 0 := wr_of (by intro s hs; simp at hs; rcases hs with rfl | rfl | rfl <;> exact chk_enc (by assumption)) (by simp)

theorem strs_three (w : World) (a b c : ByteArray) (t : TypeId) : StrSl (w.alloc (.cells #[.string a, .string b, .string c] t)) (some ⟨w.heap.size, 0, none⟩) 3 [a, b, c] := by
  refine ⟨by simp, fun i hi => ⟨_, _, rfl, ?_⟩⟩
  rw [Nat.zero_add, cell_blk (heap_alloc_new w _)]
  match i, hi with
  | 0, _ => rfl
  | 1, _ => rfl
  | 2, _ => rfl

theorem add2 (w : World) (x y : Int) (t : TypeId) (hx : Rng x) (hy : Rng y) :
    Calls Try.prog 27 #[.slice (some ⟨w.heap.size, 0, none⟩) 2 2] (w.alloc (.cells #[.string (enc x), .string (enc y)] t)) fun r w' => r = .returned (.tuple #[.string (enc (addZ x y)), .int .i64 0]) ∧ Touch Nothing (w.alloc (.cells #[.string (enc x), .string (enc y)] t)) w' := by
  have h := Add_any _ _ _ _ (strs_two w (enc x) (enc y) t) (by simp)
  have e : addR [enc x, enc y] = .tuple #[.string (enc (addZ x y)), .int .i64 0] := by
    unfold addR
    rw [wr_two hx hy, if_neg (by simp)]
    unfold okV addZ
    simp only [sumD, dec_e hx, dec_e hy, Int.add_zero]
  rw [e] at h
  exact h

theorem add3 (w : World) (x y z : Int) (t : TypeId) (hx : Rng x) (hy : Rng y) (hz : Rng z) :
    Calls Try.prog 27 #[.slice (some ⟨w.heap.size, 0, none⟩) 3 3] (w.alloc (.cells #[.string (enc x), .string (enc y), .string (enc z)] t)) fun r w' => r = .returned (.tuple #[.string (enc (addZ (addZ x y) z)), .int .i64 0]) ∧ Touch Nothing (w.alloc (.cells #[.string (enc x), .string (enc y), .string (enc z)] t)) w' := by
  have h := Add_any _ _ _ _ (strs_three w (enc x) (enc y) (enc z) t) (by simp)
  have e : addR [enc x, enc y, enc z] = .tuple #[.string (enc (addZ (addZ x y) z)), .int .i64 0] := by
    unfold addR
    rw [wr_three hx hy hz, if_neg (by simp)]
    unfold okV addZ
    simp only [sumD, dec_e hx, dec_e hy, dec_e hz, Int.add_zero]
    rw [Int.emod_add_emod, Int.add_assoc]
  rw [e] at h
  exact h

theorem mul2 (w : World) (x y : Int) (t : TypeId) (hx : Rng x) (hy : Rng y) :
    Calls Try.prog 29 #[.slice (some ⟨w.heap.size, 0, none⟩) 2 2] (w.alloc (.cells #[.string (enc x), .string (enc y)] t)) fun r w' => r = .returned (.tuple #[.string (enc (mulZ x y)), .int .i64 0]) ∧ Touch Nothing (w.alloc (.cells #[.string (enc x), .string (enc y)] t)) w' := by
  have h := Mul_any _ _ _ _ (strs_two w (enc x) (enc y) t) (by simp)
  have e : mulR [enc x, enc y] = .tuple #[.string (enc (mulZ x y)), .int .i64 0] := by
    unfold mulR
    rw [wr_two hx hy, if_neg (by simp)]
    unfold okV mulZ
    simp only [mulD, dec_e hx, dec_e hy, Int.mul_one]
  rw [e] at h
  exact h

theorem mul3 (w : World) (x y z : Int) (t : TypeId) (hx : Rng x) (hy : Rng y) (hz : Rng z) :
    Calls Try.prog 29 #[.slice (some ⟨w.heap.size, 0, none⟩) 3 3] (w.alloc (.cells #[.string (enc x), .string (enc y), .string (enc z)] t)) fun r w' => r = .returned (.tuple #[.string (enc (mulZ (mulZ x y) z)), .int .i64 0]) ∧ Touch Nothing (w.alloc (.cells #[.string (enc x), .string (enc y), .string (enc z)] t)) w' := by
  have h := Mul_any _ _ _ _ (strs_three w (enc x) (enc y) (enc z) t) (by simp)
  have e : mulR [enc x, enc y, enc z] = .tuple #[.string (enc (mulZ (mulZ x y) z)), .int .i64 0] := by
    unfold mulR
    rw [wr_three hx hy hz, if_neg (by simp)]
    unfold okV mulZ
    simp only [mulD, dec_e hx, dec_e hy, dec_e hz, Int.mul_one]
    rw [Int.mul_emod (x * y % PP), Int.emod_emod, ← Int.mul_emod, Int.mul_assoc]
  rw [e] at h
  exact h

theorem sub2 (w : World) (x y : Int) (hx : Rng x) (hy : Rng y) :
    Calls Try.prog 31 #[.string (enc x), .string (enc y)] w fun r w' => r = .returned (.tuple #[.string (enc (subZ x y)), .int .i64 0]) ∧ Touch Nothing w w' := by
  have h := Sub_any w (enc x) (enc y)
  have e : subR (enc x) (enc y) = .tuple #[.string (enc (subZ x y)), .int .i64 0] := by
    unfold subR
    rw [wr_two hx hy, if_neg (by simp), dec_e hx, dec_e hy]
    rfl
  rw [e] at h
  exact h

theorem inv1 (w : World) (x : Int) (hx : Rng x) :
    Calls Try.prog 35 #[.string (enc x)] w fun r w' => r = .returned (.tuple #[.string (enc (invN x)), .int .i64 0]) ∧ Touch Nothing w w' := by
  have h := Inv_any w (enc x)
  rw [if_neg (by rw [chk_enc hx]; simp), dec_e hx] at h
  exact h

theorem sq1 (w : World) (x : Int) (hx : Rng x) (n : Nat) (m : Int) (hm : m = (n : Int)) (hn : n ≤ 300) :
    Calls Try.prog 42 #[.string (enc x), .int .i64 m] w fun r w' => r = .returned (.tuple #[.string (enc (sqN x n)), .int .i64 0]) ∧ Touch Nothing w w' := by
  subst hm
  have h := Square_any w (enc x) (n : Int)
  unfold sqR at h
  rw [if_neg (by rw [chk_enc hx]; simp), if_neg (by omega), dec_e hx, Int.toNat_natCast] at h
  exact h

theorem red1 (w : World) (s : ByteArray) (h : s.size ≤ 64) :
    Calls Try.prog 19 #[.string s] w fun r w' => r = .returned (.tuple #[.string (enc (dec s % PP)), .int .i64 0]) ∧ Touch Nothing w w' := reduce_yes w s h

set_option maxRecDepth 100000 in
theorem small1 (w : World) (n : Int) (h0 : 0 ≤ n) (h1 : n ≤ 2147483647) :
    Calls Try.prog 34 #[.int .i64 n] w fun r w' => r = .returned (.string (enc n)) ∧ Touch Nothing w w' := by
  have h : ∀ w, Calls Try.prog 21 #[.int .i64 n] w fun r w' => r = .returned (.tuple #[.string (enc n), .int .i64 0]) ∧ Touch Nothing w w' := fun w => small_yes w n h0 h1
  replace h := Lib.hid h
  go_enter Try.func34, Try.ntmps34
  go_wp2_with (go_at_call 21; refine (h.out _).mono ?_; rintro r w2 ⟨rfl, ht2⟩)
  go_ret
  exact ⟨rfl, ht2⟩

/-- At most n bytes. -/
def cutS (s : ByteArray) (n : Nat) : ByteArray := if s.size ≤ n then s else s.extract 0 n
theorem cutS_size (s : ByteArray) (n : Nat) : (cutS s n).size ≤ n := by
  unfold cutS
  split
  · assumption
  · simp; omega

/-- The element of any bytes. -/
def eltN (s : ByteArray) : Int := dec (cutS s 64) % PP
theorem rng_elt (s : ByteArray) : Rng (eltN s) := rng_mod _

set_option maxRecDepth 100000 in
theorem elt1 (w : World) (s : ByteArray) (hs : s.size ≤ 140737488351232) :
    Calls Try.prog 33 #[.string s] w fun r w' => r = .returned (.string (enc (eltN s))) ∧ Touch Nothing w w' := by
  have h : ∀ w, Calls Try.prog 19 #[.string (cutS s 64)] w fun r w' => r = .returned (.tuple #[.string (enc (eltN s)), .int .i64 0]) ∧ Touch Nothing w w' := fun w => red1 w _ (cutS_size s 64)
  obtain ⟨x, hx⟩ : ∃ x, x = eltN s := ⟨_, rfl⟩
  rw [← hx] at h ⊢
  replace hx := Lib.hid hx
  by_cases h64 : s.size ≤ 64
  · have e : cutS s 64 = s := by unfold cutS; rw [if_pos h64]
    rw [e] at h
    clear e
    replace h := Lib.hid h
    go_enter Try.func33, Try.ntmps33
    go_wp2_with (go_at_call 19; refine (h.out _).mono ?_; rintro r w2 ⟨rfl, ht2⟩)
    go_ret
    exact ⟨rfl, ht2⟩
  · have e : cutS s 64 = s.extract 0 64 := by unfold cutS; rw [if_neg h64]
    rw [e] at h
    clear e
    have h65 : 64 < s.size := by omega
    replace h := Lib.hid h
    go_enter Try.func33, Try.ntmps33
    go_wp2_with (go_at_call 19; refine (h.out _).mono ?_; rintro r w2 ⟨rfl, ht2⟩)
    go_ret
    exact ⟨rfl, ht2⟩

end Go.Proofs.Ytfnmnmjpcamkiaa
