/-
  Layer 1: Check, Small, Reduce, walked.
-/
import Derived.Test.YtfnmnmjpcamkiaaLod
import Derived.Test.YtfnmnmjpcamkiaaInvw
namespace Go.Proofs.Ytfnmnmjpcamkiaa
open Go.RowKit
set_option linter.unusedVariables false
set_option linter.unusedSimpArgs false

/-- What is wrong with 32 bytes. -/
def chkC (s : ByteArray) : Int := if s.size ≠ 32 then 3 else if dec s < PP then 0 else 1

theorem can_below63 (n : Int) : (canE n).below 9223372036854775808 := (canE_below n).mono (by decide)

theorem load_text (s : ByteArray) (hs : s.size = 32) : (enc ((canE (dec s % 57896044618658097711785492504343953926634992332820282019728792003956564819968)).val % PP) = s) ↔ dec s < PP := by
  have h0 := dec_pos s
  rw [canE_val _ (Int.emod_nonneg _ (by decide)) (Int.emod_lt_of_pos _ (by decide))]
  obtain ⟨m, hm⟩ : ∃ m, m = dec s % 57896044618658097711785492504343953926634992332820282019728792003956564819968 % PP := ⟨_, rfl⟩
  have m0 : 0 ≤ m := by rw [hm]; exact Int.emod_nonneg _ (by decide)
  have m1 : m < PP := by rw [hm]; exact Int.emod_lt_of_pos _ (by decide)
  rw [← hm, enc_eq_iff s hs m m0 (by unfold PP at m1; omega)]
  constructor
  · intro e; rw [← e]; exact m1
  · intro hlt
    rw [hm, Int.emod_eq_of_lt h0 (by unfold PP at hlt; omega), Int.emod_eq_of_lt h0 hlt]

theorem tl_true {a b : ByteArray} (h : a = b) : (a.toList == b.toList) = true := by subst h; simp
theorem tl_false {a b : ByteArray} (h : ¬ a = b) : (a.toList == b.toList) = false := by
  rw [ByteArray.toList_eq, ByteArray.toList_eq]
  refine Bool.eq_false_iff.2 fun e => h ?_
  have := eq_of_beq e
  exact ByteArray.ext (Array.toList_inj.1 this)

set_option maxRecDepth 100000 in
theorem Check_any (w : World) (s : ByteArray) : Calls Try.prog 24 #[.string s] w fun r w' => r = .returned (.int .i64 (chkC s)) ∧ Touch Nothing w w' := by
  unfold chkC
  by_cases hs : s.size = 32
  · rw [if_neg (by omega)]
    have hLd := Lib.hid (Load_any w s hs)
    have hiff := load_text s hs
    obtain ⟨c, hc⟩ : ∃ c, c = canE (dec s % 57896044618658097711785492504343953926634992332820282019728792003956564819968) := ⟨_, rfl⟩
    have hcb : c.below 9223372036854775808 := by rw [hc]; exact can_below63 _
    rw [← hc] at hLd hiff
    obtain ⟨t, ht⟩ : ∃ t, t = enc (c.val % PP) := ⟨_, rfl⟩
    have hT := fun w => Lib.hid (text_any w c hcb)
    rw [← ht] at hiff hT
    have hsz : ((s.size : Int) == 32) = true := by simp [hs]
    replace hs := Lib.hid hs
    replace hc := Lib.hid hc
    replace ht := Lib.hid ht
    obtain ⟨bb, hbb⟩ : ∃ bb, (t.toList == s.toList) = bb := ⟨_, rfl⟩
    have hyes : dec s < PP → bb = true := fun hd => by rw [← hbb]; exact tl_true (hiff.2 hd)
    have hno : ¬ dec s < PP → bb = false := fun hd => by rw [← hbb]; exact tl_false (fun e => hd (hiff.1 e))
    replace hyes := Lib.hid hyes
    replace hno := Lib.hid hno
    replace hT := Lib.hid hT
    clear hiff
    by_cases hd : dec s < PP
    · rw [if_pos hd]
      rw [hyes.out hd] at hbb
      clear hd hyes hno
      go_enter Try.func24, Try.ntmps24
      go_wp2_with (first | (go_at_call 58; refine hLd.out.mono ?_; rintro r w2 ⟨rfl, ht2⟩) | (go_at_call 57; refine (hT.out _).out.mono ?_; rintro r w3 ⟨rfl, ht3⟩))
      go_ret
      exact ⟨rfl, ht2.trans' ht3⟩
    · rw [if_neg hd]
      rw [hno.out hd] at hbb
      clear hd hyes hno
      go_enter Try.func24, Try.ntmps24
      go_wp2_with (first | (go_at_call 58; refine hLd.out.mono ?_; rintro r w2 ⟨rfl, ht2⟩) | (go_at_call 57; refine (hT.out _).out.mono ?_; rintro r w3 ⟨rfl, ht3⟩))
      go_ret
      exact ⟨rfl, ht2.trans' ht3⟩
  · rw [if_pos hs]
    have hsz : ((s.size : Int) == 32) = false := by simp; omega
    replace hs := Lib.hid hs
    go_enter Try.func24, Try.ntmps24
    go_wp2
    go_ret
    exact ⟨rfl, Touch.refl _ _⟩

def errV (c : Int) : Value := .tuple #[.string ⟨#[]⟩, .int .i64 c]
def okV (n : Int) : Value := .tuple #[.string (enc n), .int .i64 0]

theorem small_val (n : Int) : El.val ⟨n, 0, 0, 0, 0⟩ = n := by unfold El.val; simp only []; omega

set_option maxRecDepth 100000 in
theorem small_yes (w : World) (n : Int) (h0 : 0 ≤ n) (h1 : n ≤ 2147483647) : Calls Try.prog 21 #[.int .i64 n] w fun r w' => r = .returned (okV n) ∧ Touch Nothing w w' := by
  have hT := fun w => text_any w ⟨n, 0, 0, 0, 0⟩ (by unfold El.below; simp only []; omega)
  rw [small_val, Int.emod_eq_of_lt h0 (by unfold PP; omega)] at hT
  unfold okV
  have hin : elV ⟨n, 0, 0, 0, 0⟩ = .agg #[.int .u64 n, .int .u64 0, .int .u64 0, .int .u64 0, .int .u64 0] := rfl
  rw [hin] at hT
  clear hin
  replace hT := Lib.hid hT
  have d0 : decide (n < 0) = false := by simp; omega
  have d1 : decide (2147483647 < n) = false := by simp; omega
  have hw := u64_in n (by omega)
  go_enter Try.func21, Try.ntmps21
  go_wp2_with (go_at_call 57; refine (hT.out _).mono ?_; rintro r w2 ⟨rfl, ht2⟩)
  go_ret2
  exact ⟨rfl, ht2⟩

set_option maxRecDepth 100000 in
theorem small_no (w : World) (n : Int) (h : n < 0 ∨ 2147483647 < n) : Calls Try.prog 21 #[.int .i64 n] w fun r w' => r = .returned (errV 1) ∧ Touch Nothing w w' := by
  unfold errV
  rcases h with h | h
  · have d0 : decide (n < 0) = true := by simpa using h
    go_enter Try.func21, Try.ntmps21
    go_wp2
    go_ret2
    exact ⟨rfl, Touch.refl _ _⟩
  · have d0 : decide (n < 0) = false := by simp; omega
    have d1 : decide (2147483647 < n) = true := by simpa using h
    go_enter Try.func21, Try.ntmps21
    go_wp2
    go_ret2
    exact ⟨rfl, Touch.refl _ _⟩

end Go.Proofs.Ytfnmnmjpcamkiaa
