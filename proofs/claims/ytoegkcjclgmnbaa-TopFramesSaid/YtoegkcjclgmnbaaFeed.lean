/-
  The plain law of frames that come in chunks: what a drained reader told, and what waits in it. No program in sight.
-/
import Derived.Test.YtoegkcjclgmnbaaBreaks
namespace Go.Proofs.Ytoegkcjclgmnbaa
set_option linter.unusedVariables false
set_option linter.unusedSimpArgs false

theorem one_cons (t : List UInt8) (r : List UInt8) : one t ++ r = 0 :: 0 :: UInt8.ofNat (t.length / 256) :: UInt8.ofNat t.length :: (t ++ r) := by simp [one]

theorem num4_one {n : Nat} (h : n ≤ 4096) : num4 0 0 (UInt8.ofNat (n / 256)) (UInt8.ofNat n) = n := by
  unfold num4
  have e1 : (UInt8.ofNat (n / 256)).toNat = n / 256 := by simp [UInt8.toNat_ofNat']; omega
  have e2 : (UInt8.ofNat n).toNat = n % 256 := by simp [UInt8.toNat_ofNat']
  rw [e1, e2]
  simp
  omega

/-- A front of frames of short texts: the number at its head, once four bytes are there. -/
theorem long_front {b r t r2 : List UInt8} (ht : t.length ≤ 4096) (h : b ++ r = one t ++ r2) (h4 : 4 ≤ b.length) : long b = some t.length := by
  obtain ⟨x, y, z, u, b2, rfl⟩ := four h4
  rw [one_cons] at h
  simp only [List.cons_append, List.cons.injEq] at h
  obtain ⟨rfl, rfl, rfl, rfl, _⟩ := h
  simp [long, num4_one ht]

theorem look_front {b r : List UInt8} {l : List (List UInt8)} (hl : ∀ t ∈ l, t.length ≤ 4096) (h : b ++ r = frames l) : look ⟨b, false⟩ = ⟨b, false⟩ := by
  by_cases h4 : 4 ≤ b.length
  · cases l with
    | nil => simp [frames] at h; obtain ⟨rfl, _⟩ := h; simp at h4
    | cons t l =>
      have ht := hl t (List.mem_cons_self ..)
      have := long_front (r2 := frames l) ht (by rw [h]; simp [frames]) h4
      unfold look
      rw [this]
      simp; omega
  · unfold look
    rw [show long (St.mk b false).left = none from long_none (by simpa using h4)]

theorem next_front {b r t : List UInt8} {l : List (List UInt8)} (hl : ∀ x ∈ t :: l, x.length ≤ 4096) (h : b ++ r = frames (t :: l)) :
    (b.length < t.length + 4 ∧ next ⟨b, false⟩ = (([], false), ⟨b, false⟩)) ∨
    ∃ b2, next ⟨b, false⟩ = ((t, true), ⟨b2, false⟩) ∧ b2 ++ r = frames l := by
  have ht := hl t (List.mem_cons_self ..)
  have hf : frames (t :: l) = one t ++ frames l := by simp [frames]
  rw [hf] at h
  by_cases hb : b.length < t.length + 4
  · refine .inl ⟨hb, ?_⟩
    by_cases h4 : 4 ≤ b.length
    · have := long_front ht h h4
      unfold next
      rw [this]
      simp only []
      rw [if_pos (by omega)]
    · unfold next
      rw [show long (St.mk b false).left = none from long_none (by simpa using h4)]
  · refine .inr ?_
    have h1 : (one t).length ≤ b.length := by rw [one_len]; omega
    obtain ⟨b2, rfl⟩ : ∃ b2, b = one t ++ b2 := by
      refine ⟨b.drop (one t).length, ?_⟩
      have := congrArg (List.take (one t).length) h
      rw [List.take_append_of_le_length h1, List.take_left] at this
      conv => lhs; rw [← List.take_append_drop (one t).length b, this]
    have h2 : b2 ++ r = frames l := by simpa using h
    refine ⟨b2, ?_, h2⟩
    have hlong := long_front ht h (by omega)
    unfold next
    rw [hlong]
    simp only []
    rw [if_neg (by simp [one_len]; omega)]
    have e1 : ((one t ++ b2).drop 4).take t.length = t := by simp [one]
    have e2 : (one t ++ b2).drop (4 + t.length) = b2 := by
      rw [show 4 + t.length = (one t).length by rw [one_len]; omega, List.drop_left]
    rw [e1, e2, look_front (fun x hx => hl x (List.mem_cons_of_mem _ hx)) h2]

/-- Draining a reader in which a front of the frames lies. -/
theorem drain_front : ∀ (n : Nat) (l : List (List UInt8)) (b r : List UInt8), l.length < n → (∀ x ∈ l, x.length ≤ 4096) → b ++ r = frames l →
    ∃ k b2, k ≤ l.length ∧ drain n ⟨b, false⟩ = (l.take k, ⟨b2, false⟩) ∧ b2 ++ r = frames (l.drop k) ∧ (r = [] → k = l.length)
  | 0, l, b, r, hn, hl, h => by omega
  | n + 1, [], b, r, hn, hl, h => by
    have hb : b = [] := by simp [frames] at h; exact h.1
    subst hb
    exact ⟨0, [], Nat.le_refl _, by rw [drain_no (next_broken (s := ⟨[], false⟩) rfl)]; rfl, h, fun _ => rfl⟩
  | n + 1, t :: l, b, r, hn, hl, h => by
    rcases next_front hl h with ⟨hb, hx⟩ | ⟨b2, hx, h2⟩
    · refine ⟨0, b, Nat.zero_le _, by rw [drain_no hx]; rfl, h, fun hr => ?_⟩
      subst hr
      have := congrArg List.length h
      simp [frames, one_len] at this
      omega
    · obtain ⟨k, b3, q1, q2, q3, q4⟩ := drain_front n l b2 r (by simp at hn; omega) (fun x hx => hl x (List.mem_cons_of_mem _ hx)) h2
      refine ⟨k + 1, b3, by simp; omega, ?_, by simpa using q3, fun hr => by simp [q4 hr]⟩
      rw [drain_yes hx, q2]
      rfl

/-- Where the feeding stands: 'out' was told, b waits, r is to come. -/
structure Fed (l : List (List UInt8)) (out : List (List UInt8)) (b r : List UInt8) : Prop where
  told : ∃ k, k ≤ l.length ∧ out = l.take k ∧ b ++ r = frames (l.drop k) ∧ (r = [] → k = l.length)

theorem Fed.start (l : List (List UInt8)) : Fed l [] [] (frames l) :=
  ⟨0, Nat.zero_le _, rfl, rfl, fun h => by
    cases l with
    | nil => rfl
    | cons t l => have := congrArg List.length h; simp [frames, one_len] at this⟩

/-- One chunk. -/
theorem Fed.step {l out : List (List UInt8)} {b c r : List UInt8} {n : Nat} (hl : ∀ x ∈ l, x.length ≤ 4096) (hm : (frames l).length ≤ 1048576) (hn : l.length < n) (h : Fed l out b (c ++ r)) :
    ∃ b2 us, take ⟨b, false⟩ c = (0, ⟨b ++ c, false⟩) ∧ drain n ⟨b ++ c, false⟩ = (us, ⟨b2, false⟩) ∧ Fed l (out ++ us) b2 r := by
  obtain ⟨k, hk, rfl, hb, _⟩ := h
  have hl2 : ∀ x ∈ l.drop k, x.length ≤ 4096 := fun x hx => hl x (List.mem_of_mem_drop hx)
  have hb2 : (b ++ c) ++ r = frames (l.drop k) := by rw [List.append_assoc]; exact hb
  obtain ⟨j, b2, q1, q2, q3, q4⟩ := drain_front n (l.drop k) (b ++ c) r (by simp; omega) hl2 hb2
  refine ⟨b2, _, ?_, q2, ⟨k + j, by simp at q1; omega, ?_, by rw [← List.drop_drop]; exact q3, fun hr => ?_⟩⟩
  · have hlen : (frames (l.drop k)).length ≤ (frames l).length := by
      have e : l = l.take k ++ l.drop k := (List.take_append_drop k l).symm
      have e2 : frames l = frames (l.take k) ++ frames (l.drop k) := by
        conv => lhs; rw [e]
        unfold frames
        rw [List.flatMap_append]
      rw [e2]; simp
    have := congrArg List.length hb2
    simp only [List.length_append] at this
    unfold take
    rw [if_neg (by simp), if_neg (by simp; omega), look_front hl2 hb2]
  · rw [List.take_add]
  · have := q4 hr; simp at this; simp at q1; omega

theorem frames_drop (l : List (List UInt8)) (k : Nat) : (frames (l.drop k)).length ≤ (frames l).length := by
  have e : l = l.take k ++ l.drop k := (List.take_append_drop k l).symm
  have e2 : frames l = frames (l.take k) ++ frames (l.drop k) := by
    conv => lhs; rw [e]
    unfold frames
    rw [List.flatMap_append]
  rw [e2]; simp

theorem Fed.len {l out : List (List UInt8)} {b r : List UInt8} (h : Fed l out b r) : b.length + r.length ≤ (frames l).length ∧ out.length ≤ l.length := by
  obtain ⟨k, hk, rfl, hb, _⟩ := h
  have := congrArg List.length hb
  have := frames_drop l k
  simp at *
  omega

/-- When all has come, all was told and nothing waits. -/
theorem Fed.last {l out : List (List UInt8)} {b : List UInt8} (h : Fed l out b []) : out = l ∧ b = [] := by
  obtain ⟨k, hk, rfl, hb, hr⟩ := h
  have := hr rfl
  subst this
  refine ⟨by simp, ?_⟩
  simpa [frames] using hb

end Go.Proofs.Ytoegkcjclgmnbaa
