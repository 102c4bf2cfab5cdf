/-
  LoopsForget: the plain steps of the law.
-/
import Derived.Test.YtikjcobdddjlbaaWrk
namespace Go.Proofs.Ytikjcobdddjlbaa
open Go.RowKit
set_option linter.unusedVariables false
set_option linter.unusedSimpArgs false
set_option linter.unusedSectionVars false

section
variable {W D a : Int} {i : ByteArray} (hW : 1 ≤ W ∧ W ≤ 50) (hD : 1 ≤ D ∧ D ≤ 30) (ha : 0 ≤ a ∧ a < 1000) (hi : i.size = 16)
include hW hD ha hi

theorem fg1 : (newLg W D 0).sent a i = (0, ⟨W, D, 0, a, [⟨i, a, false⟩]⟩) := by
  have h1 : ¬ a < 0 := by omega
  have h2 : ¬ 1099511627776 < a := by omega
  simp [Lg.sent, Lg.move, newLg, hasB, hi, h1, h2]

theorem fg2 : (Lg.mk W D 0 a [⟨i, a, false⟩]).sent (a + W + D - 1) i = (6, ⟨W, D, 0, a + W + D - 1, [⟨i, a, false⟩]⟩) := by
  have h1 : ¬ a + W + D - 1 < a := by omega
  have h2 : ¬ 1099511627776 < a + W + D - 1 := by omega
  have h3 : a + W + D - 1 - W - D < a := by omega
  simp [Lg.sent, Lg.move, hasB, hi, h1, h2, oldAt, h3]

theorem fg3 : (Lg.mk W D 0 (a + W + D - 1) [⟨i, a, false⟩]).back (a + W + D) i = (5, ⟨W, D, 0, a + W + D, []⟩) := by
  have h1 : ¬ a + W + D < a + W + D - 1 := by omega
  have h2 : ¬ 1099511627776 < a + W + D := by omega
  have h3 : a ≤ a + W + D - W - D := by omega
  have h4 : ¬ (a + W + D - W - D < a) := by omega
  simp [Lg.back, back1, Lg.move, h1, h2, oldAt, h3, h4]

theorem fg4 : (Lg.mk W D 0 (a + W + D) []).sent (a + W + D) i = (0, ⟨W, D, 0, a + W + D, [⟨i, a + W + D, false⟩]⟩) := by
  have h2 : ¬ 1099511627776 < a + W + D := by omega
  simp [Lg.sent, Lg.move, hasB, hi, h2]

theorem fg5 : (Lg.mk W D 0 (a + W + D) [⟨i, a + W + D, false⟩]).back (a + W + D) i = (0, ⟨W, D, 0, a + W + D, [⟨i, a + W + D, true⟩]⟩) := by
  have h2 : ¬ 1099511627776 < a + W + D := by omega
  have h3 : a + W + D - W - D < a + W + D := by omega
  simp [Lg.back, back1, Lg.move, h2, oldAt, h3]
end

end Go.Proofs.Ytikjcobdddjlbaa
