/-
  Layer 11 (mail): Encode whole; cut, walked.
-/
import Derived.Test.YtoegkcjclgmnbaaMh
namespace Go.Proofs.Ytoegkcjclgmnbaa
open Go.RowKit
set_option linter.unusedVariables false
set_option linter.unusedSimpArgs false

/-- What Encode tells. -/
def encR (m : Ml) : List UInt8 × Int := if chkM m = true then (encM m, 0) else ([], 110)
theorem Encode_any (w : World) (v : Value) (m : Ml) (h : MlA w v m) (hl : m.s.length ≤ 4611686018427387904) (hl2 : m.i.length ≤ 4611686018427387904) :
    Calls Try.prog 22 #[v] w fun r w' => r = .returned (.tuple #[.string ⟨(encR m).1.toArray⟩, .int .i64 (encR m).2]) ∧ Touch Nothing w w' := by
  unfold encR
  by_cases hc : chkM m = true
  · rw [if_pos hc]
    by_cases hk : m.k = 1
    · exact Encode_one w v m h hl hl2 hc hk
    · exact Encode_more w v m h hl hl2 hc hk
  · rw [if_neg hc]
    exact Encode_bad w v m h hl hl2 (by simpa using hc)

theorem cut_any (w : World) (g : Nat) (s : ByteArray) (n : Nat) (hc : w.cell? ⟨g, 0, none⟩ = some (.string s)) (hf : w.frozen? ⟨g, 0, none⟩ = false) (hn : n ≤ s.size) (hs : s.size ≤ 65536) :
    Calls Try.prog 38 #[.pointer (some ⟨g, 0, none⟩), .int .i64 (n : Int)] w fun r w' => r = .returned (.string (s.extract 0 n)) ∧ w' = w.setCell ⟨g, 0, none⟩ (.string (s.extract n s.size)) := by
  have n0 : (0 : Int) ≤ (n : Int) := by omega
  have n1 : (n : Int) ≤ (s.size : Int) := by omega
  go_enter Try.func38, Try.ntmps38
  go_wp2
  go_ret
  exact ⟨rfl, rfl⟩

end Go.Proofs.Ytoegkcjclgmnbaa
