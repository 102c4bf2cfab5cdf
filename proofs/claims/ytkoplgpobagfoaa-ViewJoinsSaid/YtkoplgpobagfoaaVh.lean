/-
  Layer 27: same, walked.
-/
import Derived.Test.YtkoplgpobagfoaaVf
import Derived.Test.YtkoplgpobagfoaaVq
namespace Go.Proofs.Ytkoplgpobagfoaa
open Go.RowKit
set_option linter.unusedVariables false
set_option linter.unusedSimpArgs false

set_option maxRecDepth 100000 in
set_option maxHeartbeats 1600000 in
theorem same_any (w : World) (p q : Option Addr) (c d : Nat) (A B : List Fr) (hA : FrSl w p c A) (hB : FrSl w q d B) (hl : A.length ≤ 4611686018427387904) (b : Bool) (hb : b = decide (A = B)) :
    Calls Try.prog 20 #[.slice p A.length c, .slice q B.length d] w fun r w' => r = .returned (.bool b) ∧ Touch Nothing w w' := by
  by_cases hn : A.length = B.length
  · have e1 : ((A.length : Int) != (B.length : Int)) = false := by simp [hn]
    have e2 : (A.length : Int) = (B.length : Int) := by omega
    replace hA := Lib.hid hA
    replace hB := Lib.hid hB
    replace hb := Lib.hid hb
    go_enter Try.func20, Try.ntmps20
    go_wp2
    go_loopw [5] (fun iv wr => ∃ k : Nat, k ≤ A.length ∧ iv = .int .i64 (k : Int) ∧ Hid (∀ j (h1 : j < A.length) (h2 : j < B.length), j < k → A[j] = B[j]) ∧ Touch Nothing w wr) (fun iv _ => A.length - (intOf iv).toNat)
    case atStart => exact ⟨0, Nat.zero_le _, rfl, Lib.hid fun j h1 h2 q => by omega, Touch.refl _ _⟩
    case round =>
      obtain ⟨k, hk, rfl, hD, ht⟩ := hrel
      by_cases hlt : k < A.length
      · obtain ⟨g, o, ha, hc⟩ := (hA.out.keep ht (fun _ _ q => q)).2 k hlt
        obtain ⟨g', o', ha', hc'⟩ := (hB.out.keep ht (fun _ _ q => q)).2 k (by omega)
        subst ha ha'
        obtain ⟨⟨xa, xf, xt, xl⟩, hx⟩ : ∃ x, x = A[k] := ⟨_, rfl⟩
        obtain ⟨⟨ya, yf, yt, yl⟩, hy⟩ : ∃ x, x = B[k]'(by omega) := ⟨_, rfl⟩
        rw [← hx] at hc
        rw [← hy] at hc'
        obtain ⟨c0, c1, c2, c3⟩ := fr_cells hc
        obtain ⟨d0, d1, d2, d3⟩ := fr_cells hc'
        simp only [] at c0 c1 c2 c3 d0 d1 d2 d3
        have hk0 : (0 : Int) ≤ (k : Int) := by omega
        have hlt2 : (k : Int) < (B.length : Int) := by omega
        have hlt3 : k < B.length := by omega
        have kG := fun w => run_gF w .neq (.tmp 20) (.tmp 24) ⟨xa, xf, xt, xl⟩ ⟨ya, yf, yt, yl⟩
        have kN := fun w => run_neF w ⟨xa, xf, xt, xl⟩ ⟨ya, yf, yt, yl⟩
        unfold frV at kG kN
        simp only [] at kG kN
        clear hc hc'
        by_cases he : (⟨xa, xf, xt, xl⟩ : Fr) = ⟨ya, yf, yt, yl⟩
        · have hD2 : Hid (∀ j (h1 : j < A.length) (h2 : j < B.length), j < k + 1 → A[j] = B[j]) := Lib.hid fun j h1 h2 q => by
            by_cases e : j = k
            · subst e; rw [← hx, ← hy]; exact he
            · exact hD.out j h1 h2 (by omega)
          rw [decide_eq_true he] at kN
          simp only [Bool.not_true] at kN
          replace hx := Lib.hid hx
          replace hy := Lib.hid hy
          clear he hD
          go_upto_region 6 with fail
          go_quiet (fail)
          go_wp2
          exact ⟨⟨k + 1, by omega, by simp, hD2, ht.drewN _⟩, by simp [intOf]; omega⟩
        · have hf : b = false := by rw [hb.out]; simp; intro e; subst e; exact he (by rw [hx, hy])
          subst hf
          rw [decide_eq_false he] at kN
          simp only [Bool.not_false] at kN
          replace hx := Lib.hid hx
          replace hy := Lib.hid hy
          clear he hD
          go_upto_region 6 with fail
          go_quiet (fail)
          go_wp2
          go_ret
          exact ⟨rfl, ht.drewN _⟩
      · obtain rfl : k = A.length := by omega
        have hf : b = true := by
          rw [hb.out]
          simp only [decide_eq_true_eq]
          exact List.ext_getElem hn fun j h1 h2 => hD.out j h1 h2 h1
        subst hf
        replace hD := Lib.hid hD
        go_wp2
        go_ret
        exact ⟨rfl, ht⟩
  · have e1 : ((A.length : Int) != (B.length : Int)) = true := by simp; omega
    have e2 : ¬ (A.length : Int) = (B.length : Int) := by omega
    have hf : b = false := by rw [hb]; simp; intro e; exact hn (by rw [e])
    subst hf
    clear hb
    go_enter Try.func20, Try.ntmps20
    go_wp2
    go_ret
    exact ⟨rfl, Touch.refl _ _⟩

end Go.Proofs.Ytkoplgpobagfoaa
