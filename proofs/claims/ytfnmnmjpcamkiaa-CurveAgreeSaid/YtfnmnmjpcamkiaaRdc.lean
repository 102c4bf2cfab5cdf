/-
  Layer 1: Reduce, walked.
-/
import Derived.Test.YtfnmnmjpcamkiaaFld
namespace Go.Proofs.Ytfnmnmjpcamkiaa
open Go.RowKit
set_option linter.unusedVariables false
set_option linter.unusedSimpArgs false

theorem fine63 {e : El} (h : e.Fine) : e.below 9223372036854775808 := h.mono (by decide)

/-- The number of the bytes from k on. -/
def decD (s : ByteArray) (k : Nat) : Nat := decL (s.data.toList.drop k)

theorem decD_step (s : ByteArray) (k : Nat) (h : k < s.size) : decD s k = s[k].toNat + 256 * decD s (k + 1) := by
  unfold decD
  rw [List.drop_eq_getElem_cons (by simpa using h)]
  rfl

theorem decD_end (s : ByteArray) (k : Nat) (h : s.size ≤ k) : decD s k = 0 := by
  unfold decD
  rw [List.drop_of_length_le (by rw [Array.length_toList]; exact h)]
  rfl

theorem decD_zero (s : ByteArray) : ((decD s 0 : Nat) : Int) = dec s := rfl

theorem one_fine (n : Int) (h0 : 0 ≤ n) (h1 : n < 2251799813685248) : El.Fine ⟨n, 0, 0, 0, 0⟩ := by unfold El.Fine El.below; simp only []; omega

theorem red_step {e : El} {D b : Int} (h : e.val % PP = D % PP) : (plusE (timE e ⟨256, 0, 0, 0, 0⟩) ⟨b, 0, 0, 0, 0⟩).val % PP = (b + 256 * D) % PP := by
  rw [plusE_mod, small_val, Int.add_emod, timE_mod, small_val, Int.mul_emod, h, ← Int.mul_emod, ← Int.add_emod, Int.add_comm, Int.mul_comm]

set_option maxRecDepth 100000 in
theorem reduce_no (w : World) (s : ByteArray) (h : 64 < s.size) : Calls Try.prog 19 #[.string s] w fun r w' => r = .returned (errV 2) ∧ Touch Nothing w w' := by
  unfold errV
  go_enter Try.func19, Try.ntmps19
  go_wp2
  go_ret2
  exact ⟨rfl, Touch.refl _ _⟩

set_option maxRecDepth 100000 in
set_option maxHeartbeats 1600000 in
theorem reduce_yes (w : World) (s : ByteArray) (h : s.size ≤ 64) : Calls Try.prog 19 #[.string s] w fun r w' => r = .returned (okV (dec s % PP)) ∧ Touch Nothing w w' := by
  unfold okV
  go_enter Try.func19, Try.ntmps19
  go_wp2
  go_loopw [5] (fun iv wr => ∃ k : Nat, k ≤ s.size ∧ iv = .int .i64 ((k : Int) - 1) ∧ (∃ e : El, wr.heap[w.heap.size]? = some (elC e) ∧ e.Fine ∧ e.val % PP = (decD s k : Int) % PP) ∧ Touch Nothing w wr) (fun iv _ => (intOf iv + 1).toNat)
  case atStart => exact ⟨s.size, Nat.le_refl _, rfl, ⟨zE, heap_alloc_new w (elC zE), one_fine 0 (by omega) (by omega), by rw [decD_end s s.size (Nat.le_refl _)]; rfl⟩, (Touch.refl _ _).alloc _⟩
  case round =>
    obtain ⟨k, hk, rfl, ⟨e, he, hf, hm⟩, ht⟩ := hrel
    cases k with
    | zero =>
      have hT := fun hw : True => Lib.hid (Text_any wr _ e he (fine63 hf))
      replace hT := hT trivial
      rw [hm, decD_zero] at hT
      replace hm := Lib.hid hm
      replace hf := Lib.hid hf
      replace he := Lib.hid he
      go_wp2_with (go_at_call 53; refine hT.out.mono ?_; rintro r w2 ⟨rfl, ht2⟩)
      go_ret2
      exact ⟨rfl, ht.trans' ht2⟩
    | succ j =>
      have hj : (((j + 1 : Nat) : Int) - 1) = (j : Int) := by omega
      rw [hj]
      clear hj
      have hjs : j < s.size := by omega
      have hbl := s[j].toNat_lt
      have hj0 : (0 : Int) ≤ (j : Int) := by omega
      have hbx : (wr.alloc (elC ⟨256, 0, 0, 0, 0⟩)).heap[wr.heap.size]? = some (elC ⟨256, 0, 0, 0, 0⟩) := heap_alloc_new _ _
      have hsx : (wr.alloc (elC ⟨256, 0, 0, 0, 0⟩)).heap[w.heap.size]? = some (elC e) := ((Touch.refl Nothing wr).alloc _).heap he (fun q => q)
      have hTm := Lib.hid (Times_any _ _ _ _ _ _ _ hsx hsx hbx hf (one_fine 256 (by omega) (by omega)))
      have hne := lt_of_heap he
      have hf2 := timE_fine hf (one_fine 256 (by omega) (by omega))
      have hst := red_step (b := (s[j].toNat : Int)) hm
      have hD := decD_step s j hjs
      replace hm := Lib.hid hm
      replace hf := Lib.hid hf
      replace he := Lib.hid he
      replace hst := Lib.hid hst
      replace hD := Lib.hid hD
      replace hf2 := Lib.hid hf2
      replace hsx := Lib.hid hsx
      replace hbx := Lib.hid hbx
      go_upto_region 8 with (go_at_call 51; refine hTm.out.mono ?_; rintro r w2 ⟨rfl, hh2, ht2⟩)
      have hne2 := lt_of_heap hh2
      have hbx2 : (w2.alloc (elC ⟨(s[j].toNat : Int), 0, 0, 0, 0⟩)).heap[w2.heap.size]? = some (elC ⟨(s[j].toNat : Int), 0, 0, 0, 0⟩) := heap_alloc_new _ _
      have hsx2 : (w2.alloc (elC ⟨(s[j].toNat : Int), 0, 0, 0, 0⟩)).heap[w.heap.size]? = some (elC (timE e ⟨256, 0, 0, 0, 0⟩)) := ((Touch.refl Nothing w2).alloc _).heap hh2 (fun q => q)
      have hP := Lib.hid (Plus_any _ _ _ _ _ _ _ hsx2 hsx2 hbx2 hf2.out (one_fine (s[j].toNat : Int) (by omega) (by omega)))
      have hf3 := Lib.hid (plusE_fine hf2.out (one_fine (s[j].toNat : Int) (by omega) (by omega)))
      replace hh2 := Lib.hid hh2
      replace hbx2 := Lib.hid hbx2
      replace hsx2 := Lib.hid hsx2
      go_wp2_with (go_at_call 52; refine hP.out.mono ?_; rintro r w3 ⟨rfl, hh3, ht3⟩)
      have hsz := ht.size
      have hsz2 := ht2.size
      simp at hsz2
      exact ⟨⟨j, by omega, rfl, ⟨_, hh3, hf3.out, by rw [hst.out, hD.out]; congr 1⟩, ((ht.alloc _).trans ht2 fun i hi q => by omega).trans (((Touch.refl (fun i => i = w.heap.size) w2).alloc _).trans ht3 fun i hi q => q) fun i hi q => by omega⟩, by simp [intOf]⟩

end Go.Proofs.Ytfnmnmjpcamkiaa
