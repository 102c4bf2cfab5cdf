/-
  Layer 11 (mail): Encode of the other kinds, walked.
-/
import Derived.Test.YtoegkcjclgmnbaaMf
namespace Go.Proofs.Ytoegkcjclgmnbaa
open Go.RowKit
set_option linter.unusedVariables false
set_option linter.unusedSimpArgs false

theorem isId_size {s : ByteArray} (h : isId s = true) : s.size = 16 := by unfold isId at h; simp at h; exact h.1
theorem lead_all (L : List (ByteArray × ByteArray)) (h : filled L = true) : L.length = 4 ∧ ∀ x ∈ L, x.1.size ≤ 16 ∧ x.2.size ≤ 222 := by
  unfold filled at h
  simp only [Bool.and_eq_true, decide_eq_true_eq, Bool.not_eq_true'] at h
  refine ⟨h.1, fun x hx => ?_⟩
  obtain ⟨j, hj, rfl⟩ := List.mem_iff_getElem.1 hx
  by_cases q : j < lead L
  · have := lead_lt L j hj q
    unfold entry at this
    simp at this
    exact ⟨by rw [isId_size this.1]; exact Nat.le_refl _, this.2⟩
  · have h2 := List.any_eq_false.1 h.2 L[j] (by
      rw [List.mem_iff_getElem]
      exact ⟨j - lead L, by rw [List.length_drop]; omega, by rw [List.getElem_drop]; congr 1; omega⟩)
    have e : L[j] = slot0 := by simpa using h2
    rw [e]
    exact ⟨Nat.zero_le _, Nat.zero_le _⟩

theorem padl_len (n : Nat) (s : ByteArray) (h : s.size ≤ n) : (padl n s).length = n := by
  unfold padl
  rw [List.length_append, tx_len, List.length_replicate]
  omega
theorem slB_len (x : ByteArray × ByteArray) (h : x.1.size ≤ 16 ∧ x.2.size ≤ 222) : (slB x).length = 239 := by
  unfold slB
  rw [List.length_append, padl_len 16 _ h.1, List.length_cons, padl_len 222 _ h.2]
theorem flat_slB : ∀ (L : List (ByteArray × ByteArray)), (∀ x ∈ L, x.1.size ≤ 16 ∧ x.2.size ≤ 222) → (L.flatMap slB).length = 239 * L.length
  | [], _ => rfl
  | x :: r, h => by
    rw [List.flatMap_cons, List.length_append, slB_len x (h x List.mem_cons_self), flat_slB r fun y hy => h y (List.mem_cons_of_mem _ hy), List.length_cons]
    omega
theorem flat_ids : ∀ (L : List ByteArray), (∀ x ∈ L, x.size = 16) → (L.flatMap tx).length = 16 * L.length
  | [], _ => rfl
  | x :: r, h => by
    rw [List.flatMap_cons, List.length_append, tx_len, h x List.mem_cons_self, flat_ids r fun y hy => h y (List.mem_cons_of_mem _ hy), List.length_cons]
    omega

/-- What a message of another kind than 1 is like. -/
theorem more_facts {m : Ml} (hc : chkM m = true) (hk : m.k ≠ 1) : (m.k = 2 ∨ m.k = 3 ∨ m.k = 4) ∧ (0 ≤ m.q ∧ m.q ≤ 2147483647) ∧ (∀ x ∈ m.s, x.1.size ≤ 16 ∧ x.2.size ≤ 222) ∧ (∀ x ∈ m.i, x.size = 16) ∧ m.s.length ≤ 4 ∧ m.i.length ≤ 4 ∧ m.g.size ≤ 32 ∧ (bodyM m).length ≤ longM m.k := by
  have hid : m.i.any (fun s => !isId s) = false → ∀ x ∈ m.i, x.size = 16 := fun h x hx => by
    have := List.any_eq_false.1 h x hx
    exact isId_size (by simpa using this)
  have hb : (bodyM m).length = 6 + m.g.size + (m.s.flatMap slB).length + (m.i.flatMap tx).length := by
    unfold bodyM
    simp only [List.length_cons, List.length_append, tx_len]
    omega
  have he : ∀ s : ByteArray, s = e0 → s.size = 0 := fun s h => by rw [h]; rfl
  unfold chkM at hc
  rw [if_neg hk] at hc
  by_cases h2 : m.k = 2
  · rw [if_pos h2] at hc
    simp [whoM] at hc
    obtain ⟨⟨_, _, q1, q2⟩, _, hg, hs, hi⟩ := hc
    have hs' : m.s = [] := List.eq_nil_of_length_eq_zero (by simpa using hs)
    have hi' : m.i = [] := List.eq_nil_of_length_eq_zero (by simpa using hi)
    refine ⟨.inl h2, ⟨by omega, q2⟩, by rw [hs']; simp, by rw [hi']; simp, by rw [hs']; simp, by rw [hi']; simp, by omega, ?_⟩
    rw [hb, hs', hi', hg, h2]
    decide
  · rw [if_neg h2] at hc
    by_cases h3 : m.k = 3
    · rw [if_pos h3] at hc
      simp [whoM] at hc
      obtain ⟨⟨_, _, q1, q2⟩, _, hg, hs, hi⟩ := hc
      obtain ⟨hs1, hs2⟩ := lead_all m.s hs
      have hi' : m.i = [] := List.eq_nil_of_length_eq_zero (by simpa using hi)
      have hg0 := he _ hg
      refine ⟨.inr (.inl h3), ⟨by omega, q2⟩, hs2, by rw [hi']; simp, by omega, by rw [hi']; simp, by omega, ?_⟩
      rw [hb, hi', flat_slB _ hs2, hs1, hg0, h3]
      decide
    · rw [if_neg h3] at hc
      by_cases h4 : m.k = 4
      · rw [if_pos h4] at hc
        simp [whoM] at hc
        obtain ⟨⟨_, _, q1, q2⟩, _, hg, hs, hi1, hi2⟩ := hc
        have hs' : m.s = [] := List.eq_nil_of_length_eq_zero (by simpa using hs)
        have hi3 : ∀ x ∈ m.i, x.size = 16 := fun x hx => isId_size (hi2 x hx)
        refine ⟨.inr (.inr h4), ⟨by omega, q2⟩, by rw [hs']; simp, hi3, by rw [hs']; simp, hi1, by omega, ?_⟩
        have hL : longM 4 = 102 := by decide
        rw [hb, hs', flat_ids _ hi3, hg, h4, hL]
        simp
        omega
      · rw [if_neg h4] at hc
        cases hc

end Go.Proofs.Ytoegkcjclgmnbaa
