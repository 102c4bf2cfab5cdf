/-
  The law ViewReads, walked.
-/
import Derived.Test.YtkoplgpobagfoaaWk
import Derived.Test.YtkoplgpobagfoaaVh
namespace Go.Proofs.Ytkoplgpobagfoaa
open Go.RowKit
set_option linter.unusedVariables false
set_option linter.unusedSimpArgs false

theorem decR_len (s : ByteArray) : (decR s).1.length ≤ s.size := by
  unfold decR
  split
  · exact Nat.zero_le _
  · split
    · exact Nat.zero_le _
    · simp only []
      rw [framesN_len]
      omega

set_option maxRecDepth 100000 in
set_option maxHeartbeats 800000 in
theorem viewReads_walk (w : World) (s : ByteArray) (hs : s.size ≤ 1048576) : Calls Try.prog 4 #[.string s] w fun r w' => r = .returned (.bool true) ∧ Touch Nothing w w' := by
  have hA := fun w => Decode_any w s hs
  have hB := fun w => Decode_ref w s hs
  have hlen := decR_len s
  obtain ⟨⟨F, e⟩, hF⟩ : ∃ x, x = decR s := ⟨_, rfl⟩
  rw [← hF] at hA hB hlen
  unfold DecPost at hA hB
  simp only [] at hA hB hlen
  have hS := fun w p q c d h1 h2 => same_any w p q c d F F h1 h2 (by omega) true (by simp)
  have e3 : (e == e) = true := by simp
  have hW := Lib.hid (fun w => works_any w)
  clear hF hlen
  replace hA := Lib.hid hA
  replace hB := Lib.hid hB
  replace hS := Lib.hid hS
  go_enter Try.func4, Try.ntmps4
  go_wp2_with (first | (go_at_call 18; refine (hA.out _).mono ?_; rintro r w1 ⟨p, c, rfl, hp, t1⟩; replace hp := Lib.hid hp) | (go_at_call 19; refine (hB.out _).mono ?_; rintro r w2 ⟨q, d, rfl, hq, t2⟩; replace hq := Lib.hid hq) | (go_at_call 20; refine (hS.out _ p q c d (hp.out.keep t2 (fun _ _ q => q)) hq.out).mono ?_; rintro r w3 ⟨rfl, t3⟩) | (go_at_call 17; refine (hW.out _).mono ?_; rintro r wW ⟨rfl, tW⟩))
  go_ret
  exact ⟨rfl, ((t1.trans' t2).trans' t3).trans' tW⟩

theorem ViewReads_walk (w : World) (x : ByteArray) (hx : x.size ≤ 140737488351232) (hb : x.size ≤ 1048576) :
    Calls Try.prog 4 #[.string x] w fun r w' => r = .returned (.bool true) ∧ Below w.heap.size w w' :=
  (viewReads_walk w x hb).mono fun r w' q => ⟨q.1, q.2.toBelow0 fun _ _ q => q⟩

end Go.Proofs.Ytkoplgpobagfoaa
