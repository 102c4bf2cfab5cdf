/-
  Layer 27: within, walked.
-/
import Derived.Test.YtkoplgpobagfoaaVt
namespace Go.Proofs.Ytkoplgpobagfoaa
open Go.RowKit
set_option linter.unusedVariables false
set_option linter.unusedSimpArgs false

theorem sub_take {x : Fr} {l r : List Fr} (h : (x :: l).Sublist (x :: r)) : l.Sublist r := by
  cases h with
  | cons _ h => exact (List.sublist_cons_self x l).trans h
  | cons_cons _ h => exact h
theorem sub_skip {x y : Fr} {l r : List Fr} (h : (y :: l).Sublist (x :: r)) (hne : y ≠ x) : (y :: l).Sublist r := by
  cases h with
  | cons _ h => exact h
  | cons_cons _ h => exact absurd rfl hne

set_option maxRecDepth 100000 in
set_option maxHeartbeats 1600000 in
theorem within_yes (w : World) (p q : Option Addr) (c d : Nat) (A B : List Fr) (hA : FrSl w p c A) (hB : FrSl w q d B) (hl : A.length ≤ 4611686018427387904) (hl2 : B.length ≤ 4611686018427387904) (hs : A.Sublist B) :
    Calls Try.prog 32 #[.slice p A.length c, .slice q B.length d] w fun r w' => r = .returned (.bool true) ∧ Touch Nothing w w' := by
  obtain ⟨la, hla⟩ : ∃ n, n = A.length := ⟨_, rfl⟩
  obtain ⟨lb, hlb⟩ : ∃ n, n = B.length := ⟨_, rfl⟩
  rw [← hla, ← hlb]
  rw [← hla] at hl
  rw [← hlb] at hl2
  replace hA := Lib.hid hA
  replace hB := Lib.hid hB
  replace hla := Lib.hid hla
  replace hlb := Lib.hid hlb
  replace hs := Lib.hid hs
  go_enter Try.func32, Try.ntmps32
  go_wp2
  go_loopw [5, 10] (fun iv kv wr => ∃ i k : Nat, i ≤ la ∧ k ≤ lb ∧ iv = .int .i64 (i : Int) ∧ kv = .int .i64 (k : Int) ∧ Hid ((A.drop i).Sublist (B.drop k)) ∧ Touch Nothing w wr) (fun _ kv _ => lb - (intOf kv).toNat)
  case atStart => exact ⟨0, 0, Nat.zero_le _, Nat.zero_le _, rfl, rfl, Lib.hid hs.out, Touch.refl _ _⟩
  case round =>
    obtain ⟨i, k, hi, hk, rfl, rfl, hI, ht⟩ := hrel
    by_cases hkb : k < lb
    · have hkB : k < B.length := by have := hlb.out; omega
      obtain ⟨g', o', ha', hc'⟩ := (hB.out.keep ht (fun _ _ q => q)).2 k hkB
      subst ha'
      have hI2 := hI.out
      rw [List.drop_eq_getElem_cons hkB] at hI2
      obtain ⟨y, hy⟩ : ∃ x, x = B[k] := ⟨_, rfl⟩
      rw [← hy] at hc' hI2
      obtain ⟨ya, yf, yt, yl⟩ := y
      obtain ⟨d0, d1, d2, d3⟩ := fr_cells hc'
      simp only [] at d0 d1 d2 d3
      have k0 : (0 : Int) ≤ (k : Int) := by omega
      have k1 : (k : Int) < (lb : Int) := by omega
      have k2 : IntKind.i64.wrap ((k : Int) + 1) = (k : Int) + 1 := by rw [IntKind.wrap_i64]; omega
      have i0 : (0 : Int) ≤ (i : Int) := by omega
      have h9 := heap_new wr (.cells #[.int .i64 ya, .int .i64 yf, .int .i64 yt, .int .i64 yl] 50)
      have ta := (Touch.refl Nothing wr).alloc (.cells #[.int .i64 ya, .int .i64 yf, .int .i64 yt, .int .i64 yl] 50)
      have ht9 := ht.trans' ta
      replace hy := Lib.hid hy
      clear hc' hI
      obtain ⟨W9, eW9⟩ : ∃ W, W = wr.alloc (.cells #[.int .i64 ya, .int .i64 yf, .int .i64 yt, .int .i64 yl] 50) := ⟨_, rfl⟩
      obtain ⟨g9, eg9⟩ : ∃ g, g = wr.heap.size := ⟨_, rfl⟩
      rw [← eW9, ← eg9] at h9
      rw [← eW9] at ht9
      replace h9 := Lib.hid h9
      replace ht9 := Lib.hid ht9
      replace hI2 := Lib.hid hI2
      clear ta
      go_upto_region 5 with fail
      rw [← eW9, ← eg9]
      clear d0 d1 d2 d3
      have d0 := cell_blk h9.out 0
      have d1 := cell_blk h9.out 1
      have d2 := cell_blk h9.out 2
      have d3 := cell_blk h9.out 3
      replace d0 : W9.cell? ⟨g9, 0, none⟩ = some (.int .i64 ya) := d0
      replace d1 : W9.cell? ⟨g9, 1, none⟩ = some (.int .i64 yf) := d1
      replace d2 : W9.cell? ⟨g9, 2, none⟩ = some (.int .i64 yt) := d2
      replace d3 : W9.cell? ⟨g9, 3, none⟩ = some (.int .i64 yl) := d3
      replace eW9 := Lib.hid eW9
      replace eg9 := Lib.hid eg9
      by_cases hia : i < la
      · have hiA : i < A.length := by have := hla.out; omega
        obtain ⟨g, o, ha, hc⟩ := (hA.out.keep ht9.out (fun _ _ q => q)).2 i hiA
        subst ha
        have hI3 := hI2.out
        rw [List.drop_eq_getElem_cons hiA] at hI3
        obtain ⟨x, hx⟩ : ∃ x, x = A[i] := ⟨_, rfl⟩
        rw [← hx] at hc hI3
        obtain ⟨xa, xf, xt, xl⟩ := x
        obtain ⟨c0, c1, c2, c3⟩ := fr_cells hc
        simp only [] at c0 c1 c2 c3
        have i1 : (i : Int) < (la : Int) := by omega
        have i2 : decide (i < la) = true := decide_eq_true hia
        have i3 : IntKind.i64.wrap ((i : Int) + 1) = (i : Int) + 1 := by rw [IntKind.wrap_i64]; omega
        have kG := fun w => run_gF w .eql (.tmp 22) (.tmp 23) ⟨xa, xf, xt, xl⟩ ⟨ya, yf, yt, yl⟩
        have kN := fun w => run_eqF w ⟨xa, xf, xt, xl⟩ ⟨ya, yf, yt, yl⟩
        unfold frV at kG kN
        simp only [] at kG kN
        clear hc
        by_cases he : (⟨xa, xf, xt, xl⟩ : Fr) = ⟨ya, yf, yt, yl⟩
        · rw [decide_eq_true he] at kN
          rw [he] at hI3
          have hI4 := Lib.hid (sub_take hI3)
          replace hx := Lib.hid hx
          clear he hI3 hI2
          go_quiet (fail)
          go_wp2
          exact ⟨⟨i + 1, k + 1, by omega, by omega, by simp, by simp, hI4, ht9.out.drewN _⟩, by simp [intOf]; omega⟩
        · rw [decide_eq_false he] at kN
          have hI4 := sub_skip hI3 he
          rw [hx, ← List.drop_eq_getElem_cons hiA] at hI4
          replace hI4 := Lib.hid hI4
          replace hx := Lib.hid hx
          clear he hI3 hI2
          go_quiet (fail)
          go_wp2
          exact ⟨⟨i, k + 1, hi, by omega, rfl, by simp, hI4, ht9.out.drewN _⟩, by simp [intOf]; omega⟩
      · have i1 : ¬ (i : Int) < (la : Int) := by omega
        have i2 : decide (i < la) = false := decide_eq_false hia
        have hI4 : Hid ((A.drop i).Sublist (B.drop (k + 1))) := Lib.hid (by rw [List.drop_of_length_le (by have := hla.out; omega)]; exact List.nil_sublist _)
        clear hI2
        go_quiet (fail)
        go_wp2
        exact ⟨⟨i, k + 1, hi, by omega, rfl, by simp, hI4, ht9.out.drewN _⟩, by simp [intOf]; omega⟩
    · have hI2 := hI.out
      rw [List.drop_of_length_le (l := B) (by have := hlb.out; omega)] at hI2
      have h3 : A.drop i = [] := List.sublist_nil.1 hI2
      have h4 := congrArg List.length h3
      rw [List.length_drop, List.length_nil, ← hla.out] at h4
      obtain rfl : i = la := by omega
      have x1 : ¬ (k : Int) < (lb : Int) := by omega
      have x2 : ((i : Int) == (i : Int)) = true := by simp
      clear hI hI2 h3 h4
      go_wp2
      go_ret
      exact ⟨rfl, ht⟩

end Go.Proofs.Ytkoplgpobagfoaa
