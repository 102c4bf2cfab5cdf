/-
  Layer 2: Clamp, walked.
-/
import Derived.Test.YtfnmnmjpcamkiaaCl8
namespace Go.Proofs.Ytfnmnmjpcamkiaa
open Go.RowKit
set_option linter.unusedVariables false
set_option linter.unusedSimpArgs false

def clampR (k : ByteArray) : Res := if k.size = 32 then (enc (clampN (decL k.data.toList) : Nat), 0) else (noB, 3)

set_option maxRecDepth 100000 in
theorem Clamp_lay (w : World) (k : ByteArray) : Calls Try.prog 38 #[.string k] w fun r w' => r = .returned (.tuple #[.string (clampR k).1, .int .i64 (clampR k).2]) ∧ Touch Nothing w w' := by
  obtain ⟨x, hx⟩ : ∃ x, x = clampR k := ⟨_, rfl⟩
  rw [← hx]
  unfold clampR at hx
  by_cases hk : k.size = 32
  · rw [if_pos hk] at hx
    obtain ⟨n, hn⟩ : ∃ n, n = clampN (decL k.data.toList) := ⟨_, rfl⟩
    obtain ⟨A, hc⟩ : ∃ A, A = bytesTo n 32 := ⟨_, rfl⟩
    have hrow : Row32 n A := by rw [hc]; exact row32 n
    have hclm := fun w => clamped_to w k hk A (by rw [← hn]; exact hc)
    have hlist : A.toList = (encL n 32).map byteV := by rw [hc, bytesTo_all]
    rw [← hn] at hx
    have hxe : (⟨(encL n 32).toArray⟩ : ByteArray) = x.1 := by rw [hx]; rfl
    have hx0 : x.2 = 0 := by rw [hx]
    have e1 : ((k.size : Int) == 32) = true := by simp [hk]
    have e2 : ((k.size : Int) != 32) = false := by simp [hk]
    have e5 : (k.size : Int) = 32 := by omega
    clear hk hc hn hx
    replace hrow := Lib.hid hrow
    replace hclm := Lib.hid hclm
    replace hlist := Lib.hid hlist
    replace hxe := Lib.hid hxe
    replace hx0 := Lib.hid hx0
    go_enter Try.func38, Try.ntmps38
    go_upto_region 3 with fail
    refine wp_region_list (wpList_plain rfl fun K hK => ?_)
    go_step
    go_step
    go_step
    go_step
    go_at_call 72
    refine (hclm.out _).mono ?_
    rintro r w2 ⟨rfl, ht2⟩
    obtain ⟨w3, hst, hg3, ht3⟩ := store32 w2 n A hrow.out
    unfold zero32 at hst
    have hsz := hrow.out.size
    have hsl : SlB w3 (some ⟨w2.heap.size, 0, none⟩) 32 (encL n 32) := by
      refine ⟨by rw [encL_length]; omega, fun i hi => ⟨_, _, rfl, ?_⟩⟩
      rw [Nat.zero_add, cell_blk hg3, ← Array.getElem?_toList, hlist.out, List.getElem?_map, List.getElem?_eq_getElem hi]
      rfl
    have hconv := hsl.conv (P := Try.prog) (n := 32) (encL_length _ _) 42 5 9 Try.underlying42 Try.underlying5 Try.underlying9 32
    rw [hxe.out] at hconv
    replace hsl := Lib.hid hsl
    replace hg3 := Lib.hid hg3
    replace ht2 := Lib.hid (ht2.trans' ht3)
    clear ht3
    go_wp2
    go_ret2
    exact ⟨by rw [hx0.out]; rfl, ht2.out⟩
  · rw [if_neg hk] at hx
    subst hx
    have e4 : ((k.size : Int) != 32) = true := by simp; omega
    have e6 : ¬ (k.size : Int) = 32 := by omega
    clear hk
    go_enter Try.func38, Try.ntmps38
    go_wp2
    go_ret2
    exact ⟨rfl, Touch.refl _ _⟩

end Go.Proofs.Ytfnmnmjpcamkiaa
