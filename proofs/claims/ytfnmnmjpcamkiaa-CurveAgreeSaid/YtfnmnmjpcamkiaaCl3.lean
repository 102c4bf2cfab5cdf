/-
  Layer 2: Times, text, Public, Shared, walked.
-/
import Derived.Test.YtfnmnmjpcamkiaaCl2
import Derived.Test.YtfnmnmjpcamkiaaFld
namespace Go.Proofs.Ytfnmnmjpcamkiaa
open Go.RowKit
set_option linter.unusedVariables false
set_option linter.unusedSimpArgs false

/-- A string and an error's number. -/
abbrev Res := ByteArray × Int

def resV (r : Res) : Value := .tuple #[.string r.1, .int .i64 r.2]

def noB : ByteArray := { data := #[] }

def timesR (k u : ByteArray) : Res := if k.size = 32 ∧ u.size = 32 then (timesB k u, 0) else (noB, 3)

set_option maxRecDepth 100000 in
theorem Times_lay (w : World) (k u : ByteArray) : Calls Try.prog 36 #[.string k, .string u] w fun r w' => r = .returned (.tuple #[.string (timesR k u).1, .int .i64 (timesR k u).2]) ∧ Touch Nothing w w' := by
  obtain ⟨x, hx⟩ : ∃ x, x = timesR k u := ⟨_, rfl⟩
  rw [← hx]
  unfold timesR at hx
  by_cases hk : k.size = 32
  · by_cases hu : u.size = 32
    · rw [if_pos ⟨hk, hu⟩] at hx
      have hT := Lib.hid (times_any2 w k u hk hu)
      have e1 : ((k.size : Int) == 32) = true := by simp [hk]
      have e2 : ((k.size : Int) != 32) = false := by simp [hk]
      have e3 : ((u.size : Int) == 32) = true := by simp [hu]
      have e4 : ((u.size : Int) != 32) = false := by simp [hu]
      have e5 : (k.size : Int) = 32 := by omega
      have e6 : (u.size : Int) = 32 := by omega
      clear hk hu
      replace hx := Lib.hid hx
      go_enter Try.func36, Try.ntmps36
      go_wp2_with (first | (go_at_call 69; refine hT.out.mono ?_; rintro r w2 ⟨rfl, ht⟩))
      go_ret2
      rw [hx.out]
      exact ⟨rfl, ht⟩
    · rw [if_neg (fun h => hu h.2)] at hx
      subst hx
      have e1 : ((k.size : Int) == 32) = true := by simp [hk]
      have e2 : ((k.size : Int) != 32) = false := by simp [hk]
      have e4 : ((u.size : Int) != 32) = true := by simp; omega
      have e5 : (k.size : Int) = 32 := by omega
      have e6 : ¬ (u.size : Int) = 32 := by omega
      clear hk hu
      go_enter Try.func36, Try.ntmps36
      go_wp2
      go_ret2
      exact ⟨rfl, Touch.refl _ _⟩
  · rw [if_neg (fun h => hk h.1)] at hx
    subst hx
    have e4 : ((k.size : Int) != 32) = true := by simp; omega
    have e6 : ¬ (k.size : Int) = 32 := by omega
    clear hk
    go_enter Try.func36, Try.ntmps36
    go_wp2
    go_ret2
    exact ⟨rfl, Touch.refl _ _⟩

set_option maxRecDepth 100000 in
theorem textn_lay (w : World) (n : Int) (h0 : 0 ≤ n) (h1 : n < 2251799813685248) : Calls Try.prog 77 #[.int .u64 n] w fun r w' => r = .returned (.string (enc n)) ∧ Touch Nothing w w' := by
  have hv : (⟨n, 0, 0, 0, 0⟩ : El).val % PP = n := by unfold El.val PP; simp only []; omega
  have hT := fun w2 : World => Text_at (pos_one 81) (w2.alloc (oneC 81 ⟨n, 0, 0, 0, 0⟩)) w2.heap.size ⟨n, 0, 0, 0, 0⟩ (heap_alloc_new _ _) ((num_fine n h0 h1).mono (by decide))
  rw [hv] at hT
  replace hT := Lib.hid hT
  clear hv h0 h1
  go_enter Try.func77, Try.ntmps77
  go_wp2_with (first | (go_at_call 84; refine (sml_to _ _).mono ?_; rintro r w2 ⟨rfl, ht⟩) | (go_at_call 53; refine (hT.out _).mono ?_; rintro r w3 ⟨rfl, ht3⟩))
  go_ret
  exact ⟨rfl, (ht.alloc _).trans' ht3⟩

set_option maxRecDepth 100000 in
theorem Public_lay (w : World) (k : ByteArray) : Calls Try.prog 46 #[.string k] w fun r w' => r = .returned (.tuple #[.string (timesR k (enc 9)).1, .int .i64 (timesR k (enc 9)).2]) ∧ Touch Nothing w w' := by
  have hT := Lib.hid (fun w2 => Times_lay w2 k (enc 9))
  have hN := Lib.hid (fun w2 => textn_lay w2 9 (by decide) (by decide))
  go_enter Try.func46, Try.ntmps46
  go_wp2_with (first | (go_at_call 77; refine (hN.out _).mono ?_; rintro r w2 ⟨rfl, ht⟩) | (go_at_call 36; refine (hT.out _).mono ?_; rintro r w3 ⟨rfl, ht3⟩))
  go_ret2
  exact ⟨rfl, ht.trans' ht3⟩

def sharedR (k u : ByteArray) : Res := if (timesR k u).2 = 0 then (if (timesR k u).1 = enc 0 then (noB, 20) else timesR k u) else (noB, (timesR k u).2)

set_option maxRecDepth 100000 in
theorem Shared_lay (w : World) (k u : ByteArray) : Calls Try.prog 44 #[.string k, .string u] w fun r w' => r = .returned (.tuple #[.string (sharedR k u).1, .int .i64 (sharedR k u).2]) ∧ Touch Nothing w w' := by
  have hT := Lib.hid (fun w2 => Times_lay w2 k u)
  have hN := Lib.hid (fun w2 => textn_lay w2 0 (by decide) (by decide))
  obtain ⟨x, hx⟩ : ∃ x, x = sharedR k u := ⟨_, rfl⟩
  rw [← hx]
  unfold sharedR at hx
  obtain ⟨⟨s, e⟩, hy⟩ : ∃ y, y = timesR k u := ⟨_, rfl⟩
  rw [← hy] at hx hT
  obtain ⟨z, hz⟩ : ∃ z, z = enc 0 := ⟨_, rfl⟩
  rw [← hz] at hx hN
  clear hy hz
  simp only [] at hx
  by_cases he : e = 0
  · subst he
    rw [if_pos rfl] at hx
    by_cases hs : s = z
    · rw [if_pos hs] at hx
      subst hs
      subst hx
      go_enter Try.func44, Try.ntmps44
      go_wp2_with (first | (go_at_call 36; refine (hT.out _).mono ?_; rintro r w3 ⟨rfl, ht3⟩) | (go_at_call 77; refine (hN.out _).mono ?_; rintro r w2 ⟨rfl, ht⟩))
      go_ret2
      exact ⟨rfl, ht3.trans' ht⟩
    · rw [if_neg hs] at hx
      subst hx
      have hb := tl_false hs
      clear hs
      go_enter Try.func44, Try.ntmps44
      go_wp2_with (first | (go_at_call 36; refine (hT.out _).mono ?_; rintro r w3 ⟨rfl, ht3⟩) | (go_at_call 77; refine (hN.out _).mono ?_; rintro r w2 ⟨rfl, ht⟩))
      go_ret2
      exact ⟨rfl, ht3.trans' ht⟩
  · rw [if_neg he] at hx
    subst hx
    have e1 : (e == 0) = false := by simp [he]
    have e2 : (e != 0) = true := by simp [he]
    go_enter Try.func44, Try.ntmps44
    go_wp2_with (first | (go_at_call 36; refine (hT.out _).mono ?_; rintro r w3 ⟨rfl, ht3⟩) | (go_at_call 77; refine (hN.out _).mono ?_; rintro r w2 ⟨rfl, ht⟩))
    go_ret2
    exact ⟨rfl, ht3⟩

end Go.Proofs.Ytfnmnmjpcamkiaa
