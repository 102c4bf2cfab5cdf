/-
  The law ViewBytes, walked.
-/
import Derived.Test.YtkoplgpobagfoaaWk
import Derived.Test.YtkoplgpobagfoaaBf
import Derived.Test.YtkoplgpobagfoaaFrs
namespace Go.Proofs.Ytkoplgpobagfoaa
open Go.RowKit
set_option linter.unusedVariables false
set_option linter.unusedSimpArgs false

set_option maxRecDepth 100000 in
set_option maxHeartbeats 800000 in
theorem viewBytes_walk (w : World) (v : Value) (L : List Fr) (h : FrA w v L) (hl : L.length * 32 ≤ 140737488351232) : Calls Try.prog 5 #[v] w fun r w' => r = .returned (.bool true) ∧ Touch Nothing w w' := by
  obtain ⟨p, c, hv, hs⟩ := h.sl
  have hA := lend_any w v L h hl
  have hC := fun w g c (hL : Lent w g c L) => Check_any w (some ⟨g, 0, none⟩) c L hL.sl
  have hC2 := fun w' (ht : Touch Nothing w w') => Check_ref w' p c L (hs.keep ht (fun _ _ q => q))
  rw [← hv] at hC2
  have hE := fun w g c (hL : Lent w g c L) => Encode_any w _ L hL.toA
  have hE2 := fun w' (ht : Touch Nothing w w') => Encode_ref w' v L (h.keep ht (fun _ _ _ _ _ q => q))
  have hK := fun w' g c (hL : Lent w' g c L) (ht : Touch Nothing w w') => kept_any w' v L g c hL (h.keep ht (fun _ _ _ _ _ q => q)) (by omega)
  have hW := Lib.hid (fun w => works_any w)
  obtain ⟨⟨q, e⟩, hq⟩ : ∃ x, x = chkR L := ⟨_, rfl⟩
  obtain ⟨⟨s, e2⟩, hr⟩ : ∃ x, x = encR L := ⟨_, rfl⟩
  rw [← hq] at hC hC2
  rw [← hr] at hE hE2
  simp only [] at hC hC2 hE hE2
  obtain ⟨str, hstr⟩ : ∃ x, x = (⟨s.toArray⟩ : ByteArray) := ⟨_, rfl⟩
  rw [← hstr] at hE hE2
  obtain ⟨n, hn⟩ : ∃ n, n = L.length := ⟨_, rfl⟩
  rw [← hn] at hA hC hE hK
  have e3 : (e == e) = true := by simp
  have e4 : (q == q) = true := by simp
  have e5 : (e2 == e2) = true := by simp
  have e6 : (str.toList == str.toList) = true := tl_true rfl
  replace hA := Lib.hid hA
  replace hC := Lib.hid hC
  replace hC2 := Lib.hid hC2
  replace hE := Lib.hid hE
  replace hE2 := Lib.hid hE2
  replace hK := Lib.hid hK
  clear h hs hl hq hr hstr hv hn
  go_enter Try.func5, Try.ntmps5
  go_wp2_with (first
    | (go_at_call 11; refine hA.out.mono ?_; rintro r w1 ⟨g, d, rfl, hL1, hgw, t1⟩; replace hL1 := Lib.hid hL1; replace t1 := Lib.hid t1)
    | (go_at_call 21; refine (hC.out _ g d hL1.out).mono ?_; rintro r w2 ⟨rfl, t2⟩; have T2 := Lib.hid (t1.out.trans' t2); have hL2 := Lib.hid (hL1.out.keep t2 (fun q => q)); clear t2)
    | (go_at_call 22; refine (hC2.out _ T2.out).mono ?_; rintro r w3 ⟨rfl, t3⟩; have T3 := Lib.hid (T2.out.trans' t3); have hL3 := Lib.hid (hL2.out.keep t3 (fun q => q)); clear t3)
    | (go_at_call 23; refine (hE.out _ g d hL3.out).mono ?_; rintro r w4 ⟨rfl, t4⟩; have T4 := Lib.hid (T3.out.trans' t4); have hL4 := Lib.hid (hL3.out.keep t4 (fun q => q)); clear t4)
    | (go_at_call 24; refine (hE2.out _ T4.out).mono ?_; rintro r w5 ⟨rfl, t5⟩; have T5 := Lib.hid (T4.out.trans' t5); have hL5 := Lib.hid (hL4.out.keep t5 (fun q => q)); clear t5)
    | (go_at_call 16; refine (hK.out _ g d hL5.out T5.out).mono ?_; rintro r w6 ⟨rfl, t6⟩; have T6 := Lib.hid (T5.out.trans' t6); clear t6)
    | (go_at_call 17; refine (hW.out _).mono ?_; rintro r w7 ⟨rfl, t7⟩))
  go_ret
  exact ⟨rfl, T6.out.trans' t7⟩

theorem ViewBytes_walk (w : World) (a : Option Addr) (c : Nat) (L : List Fr) (h : FrA w (.slice a L.length c) L) (hz : ∀ x ∈ L, x.inR) (hl : L.length * 32 ≤ 140737488351232) :
    Calls Try.prog 5 #[.slice a L.length c] w fun r w' => r = .returned (.bool true) ∧ Below w.heap.size w w' :=
  (viewBytes_walk w _ L h hl).mono fun r w' q => ⟨q.1, q.2.toBelow0 fun _ _ q => q⟩

end Go.Proofs.Ytkoplgpobagfoaa
