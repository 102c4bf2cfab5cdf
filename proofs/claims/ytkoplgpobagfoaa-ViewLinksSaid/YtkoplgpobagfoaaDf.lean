/-
  Layer 27: where two views are unlike first: Differ of the program and of the document, walked.
-/
import Derived.Test.YtkoplgpobagfoaaVh
namespace Go.Proofs.Ytkoplgpobagfoaa
open Go.RowKit
set_option linter.unusedVariables false
set_option linter.unusedSimpArgs false

def dif : Nat → List Fr → List Fr → Int × Bool
  | _, [], [] => (0, false)
  | k, [], _ :: _ => ((k : Int), true)
  | k, _ :: _, [] => ((k : Int), true)
  | k, a :: A, b :: B => if a = b then dif (k + 1) A B else ((k : Int), true)

theorem dif_drop (A B : List Fr) (k : Nat) (h1 : k < A.length) (h2 : k < B.length) : dif k (A.drop k) (B.drop k) = if A[k] = B[k] then dif (k + 1) (A.drop (k + 1)) (B.drop (k + 1)) else ((k : Int), true) := by
  rw [List.drop_eq_getElem_cons h1, List.drop_eq_getElem_cons h2]
  rfl
theorem dif_one (A B : List Fr) (k : Nat) (h : (k < A.length ∧ ¬ k < B.length) ∨ (¬ k < A.length ∧ k < B.length)) : dif k (A.drop k) (B.drop k) = ((k : Int), true) := by
  rcases h with ⟨h1, h2⟩ | ⟨h1, h2⟩
  · rw [List.drop_eq_getElem_cons h1, List.drop_of_length_le (l := B) (by omega)]; rfl
  · rw [List.drop_eq_getElem_cons h2, List.drop_of_length_le (l := A) (by omega)]; rfl
theorem dif_no (A B : List Fr) (k : Nat) (h1 : ¬ k < A.length) (h2 : ¬ k < B.length) : dif k (A.drop k) (B.drop k) = (0, false) := by
  rw [List.drop_of_length_le (l := A) (by omega), List.drop_of_length_le (l := B) (by omega)]; rfl
theorem dif_self : ∀ (A : List Fr) (k : Nat), dif k A A = (0, false)
  | [], _ => rfl
  | a :: A, k => by rw [dif, if_pos rfl]; exact dif_self A (k + 1)

theorem run_min2 (w : World) (x y : Int) : (Builtin.min_ #[3, 3] 3 #[.int .i64 x, .int .i64 y]).run Try.prog w = .ok (.int .i64 (min x y)) w := by
  have e : ∀ a b : Int, (if b < a then b else a) = min a b := fun a b => by omega
  simp [Builtin.min_, Builtin.min2, e]

set_option maxRecDepth 100000 in
set_option maxHeartbeats 1600000 in
theorem Differ_any (w : World) (p q : Option Addr) (c d : Nat) (A B : List Fr) (hA : FrSl w p c A) (hB : FrSl w q d B) (hl : A.length ≤ 4611686018427387904) (hl2 : B.length ≤ 4611686018427387904) :
    Calls Try.prog 14 #[.slice p A.length c, .slice q B.length d] w fun r w' => r = .returned (.tuple #[.int .i64 (dif 0 A B).1, .bool (dif 0 A B).2]) ∧ Touch Nothing w w' := by
  obtain ⟨res, hres⟩ : ∃ r, r = dif 0 A B := ⟨_, rfl⟩
  rw [← hres]
  obtain ⟨n, hn⟩ : ∃ n, n = min A.length B.length := ⟨_, rfl⟩
  obtain ⟨la, hla⟩ : ∃ n, n = A.length := ⟨_, rfl⟩
  obtain ⟨lb, hlb⟩ : ∃ n, n = B.length := ⟨_, rfl⟩
  rw [← hla, ← hlb] at hn ⊢
  rw [← hla] at hl
  rw [← hlb] at hl2
  have hmin : ∀ w, (Builtin.min_ #[3, 3] 3 #[.int .i64 (la : Int), .int .i64 (lb : Int)]).run Try.prog w = .ok (.int .i64 (n : Int)) w := fun w => by
    rw [run_min2, show min (la : Int) (lb : Int) = (n : Int) by omega]
  have hnl : n ≤ la ∧ n ≤ lb ∧ (n = la ∨ n = lb) := by omega
  replace hA := Lib.hid hA
  replace hB := Lib.hid hB
  replace hres := Lib.hid hres
  replace hn := Lib.hid hn
  replace hla := Lib.hid hla
  replace hlb := Lib.hid hlb
  replace hnl := Lib.hid hnl
  go_enter Try.func14, Try.ntmps14
  go_wp2
  clear hmin
  go_loopw [14] (fun iv wr => ∃ i : Nat, i ≤ n ∧ iv = .int .i64 (i : Int) ∧ Hid (dif i (A.drop i) (B.drop i) = res) ∧ Touch Nothing w wr) (fun iv _ => n - (intOf iv).toNat)
  case atStart => exact ⟨0, Nat.zero_le _, rfl, Lib.hid hres.out.symm, Touch.refl _ _⟩
  case round =>
    obtain ⟨i, hi, rfl, hI, ht⟩ := hrel
    by_cases hlt : i < n
    · have hiA : i < A.length := by have := hla.out; have := hnl.out; omega
      have hiB : i < B.length := by have := hlb.out; have := hnl.out; omega
      obtain ⟨g, o, ha, hc⟩ := (hA.out.keep ht (fun _ _ q => q)).2 i hiA
      obtain ⟨g', o', ha', hc'⟩ := (hB.out.keep ht (fun _ _ q => q)).2 i hiB
      subst ha ha'
      have hI2 := hI.out
      rw [dif_drop A B i hiA hiB] at hI2
      obtain ⟨x, hx⟩ : ∃ x, x = A[i] := ⟨_, rfl⟩
      obtain ⟨y, hy⟩ : ∃ x, x = B[i] := ⟨_, rfl⟩
      rw [← hx] at hc hI2
      rw [← hy] at hc' hI2
      obtain ⟨xa, xf, xt, xl⟩ := x
      obtain ⟨ya, yf, yt, yl⟩ := y
      obtain ⟨c0, c1, c2, c3⟩ := fr_cells hc
      obtain ⟨d0, d1, d2, d3⟩ := fr_cells hc'
      simp only [] at c0 c1 c2 c3 d0 d1 d2 d3
      have hi0 : (0 : Int) ≤ (i : Int) := by omega
      have hi1 : (i : Int) < (n : Int) := by omega
      have hi2 : (i : Int) < (la : Int) := by have := hnl.out; omega
      have hi3 : (i : Int) < (lb : Int) := by have := hnl.out; omega
      have hi4 : IntKind.i64.wrap ((i : Int) + 1) = (i : Int) + 1 := by rw [IntKind.wrap_i64]; omega
      have kG := fun w => run_gF w .neq (.tmp 20) (.tmp 24) ⟨xa, xf, xt, xl⟩ ⟨ya, yf, yt, yl⟩
      have kN := fun w => run_neF w ⟨xa, xf, xt, xl⟩ ⟨ya, yf, yt, yl⟩
      unfold frV at kG kN
      simp only [] at kG kN
      replace hx := Lib.hid hx
      replace hy := Lib.hid hy
      clear hc hc' hI
      by_cases he : (⟨xa, xf, xt, xl⟩ : Fr) = ⟨ya, yf, yt, yl⟩
      · rw [if_pos he] at hI2
        rw [decide_eq_true he] at kN
        simp only [Bool.not_true] at kN
        replace hI2 := Lib.hid hI2
        clear he
        go_upto_region 5 with fail
        go_quiet (fail)
        go_wp2
        exact ⟨⟨i + 1, by omega, by simp, hI2, ht.drewN _⟩, by simp [intOf]; omega⟩
      · rw [if_neg he] at hI2
        subst hI2
        rw [decide_eq_false he] at kN
        simp only [Bool.not_false] at kN
        clear he hres
        go_upto_region 5 with fail
        go_quiet (fail)
        go_wp2
        go_ret2
        exact ⟨rfl, ht.drewN _⟩
    · obtain rfl : i = n := by omega
      have hi1 : ¬ (i : Int) < (i : Int) := by omega
      by_cases hd : la = lb
      · have hI2 := hI.out
        rw [dif_no A B i (by have := hla.out; have := hnl.out; omega) (by have := hlb.out; have := hnl.out; omega)] at hI2
        subst hI2
        have x1 : ((la : Int) != (lb : Int)) = false := by simp [hd]
        have x2 : (la : Int) = (lb : Int) := by omega
        replace hd := Lib.hid hd
        clear hI hres
        go_wp2
        go_ret2
        exact ⟨rfl, ht⟩
      · have hI2 := hI.out
        rw [dif_one A B i (by have := hla.out; have := hlb.out; have := hnl.out; omega)] at hI2
        subst hI2
        have x1 : ((la : Int) != (lb : Int)) = true := by simp; omega
        have x2 : ¬ (la : Int) = (lb : Int) := by omega
        replace hd := Lib.hid hd
        clear hI hres
        go_wp2
        go_ret2
        exact ⟨rfl, ht⟩

set_option maxRecDepth 100000 in
set_option maxHeartbeats 1600000 in
theorem Differ_ref (w : World) (p q : Option Addr) (c d : Nat) (A B : List Fr) (hA : FrSl w p c A) (hB : FrSl w q d B) (hl : A.length ≤ 4611686018427387904) (hl2 : B.length ≤ 4611686018427387904) :
    Calls Try.prog 15 #[.slice p A.length c, .slice q B.length d] w fun r w' => r = .returned (.tuple #[.int .i64 (dif 0 A B).1, .bool (dif 0 A B).2]) ∧ Touch Nothing w w' := by
  obtain ⟨res, hres⟩ : ∃ r, r = dif 0 A B := ⟨_, rfl⟩
  rw [← hres]
  obtain ⟨la, hla⟩ : ∃ n, n = A.length := ⟨_, rfl⟩
  obtain ⟨lb, hlb⟩ : ∃ n, n = B.length := ⟨_, rfl⟩
  rw [← hla, ← hlb]
  rw [← hla] at hl
  rw [← hlb] at hl2
  replace hA := Lib.hid hA
  replace hB := Lib.hid hB
  replace hres := Lib.hid hres
  replace hla := Lib.hid hla
  replace hlb := Lib.hid hlb
  go_enter Try.func15, Try.ntmps15
  go_wp2
  go_loopw [6] (fun iv wr => ∃ i : Nat, (i ≤ la ∨ i ≤ lb) ∧ iv = .int .i64 (i : Int) ∧ Hid (dif i (A.drop i) (B.drop i) = res) ∧ Touch Nothing w wr) (fun iv _ => la + lb + 1 - (intOf iv).toNat)
  case atStart => exact ⟨0, .inl (Nat.zero_le _), rfl, Lib.hid hres.out.symm, Touch.refl _ _⟩
  case round =>
    obtain ⟨i, hi, rfl, hI, ht⟩ := hrel
    have hi0 : (0 : Int) ≤ (i : Int) := by omega
    by_cases hA1 : i < la
    · have x1 : (i : Int) < (la : Int) := by omega
      have y1 : decide ((la : Int) ≤ (i : Int)) = false := decide_eq_false (by omega)
      have y1n : decide (la ≤ i) = false := decide_eq_false (by omega)
      by_cases hB1 : i < lb
      · have x2 : (i : Int) < (lb : Int) := by omega
        have y2 : decide ((lb : Int) ≤ (i : Int)) = false := decide_eq_false (by omega)
        have y2n : decide (lb ≤ i) = false := decide_eq_false (by omega)
        have hiA : i < A.length := by have := hla.out; omega
        have hiB : i < B.length := by have := hlb.out; omega
        obtain ⟨g, o, ha, hc⟩ := (hA.out.keep ht (fun _ _ q => q)).2 i hiA
        obtain ⟨g', o', ha', hc'⟩ := (hB.out.keep ht (fun _ _ q => q)).2 i hiB
        subst ha ha'
        have hI2 := hI.out
        rw [dif_drop A B i hiA hiB] at hI2
        obtain ⟨x, hx⟩ : ∃ x, x = A[i] := ⟨_, rfl⟩
        obtain ⟨y, hy⟩ : ∃ x, x = B[i] := ⟨_, rfl⟩
        rw [← hx] at hc hI2
        rw [← hy] at hc' hI2
        obtain ⟨xa, xf, xt, xl⟩ := x
        obtain ⟨ya, yf, yt, yl⟩ := y
        obtain ⟨c0, c1, c2, c3⟩ := fr_cells hc
        obtain ⟨d0, d1, d2, d3⟩ := fr_cells hc'
        simp only [] at c0 c1 c2 c3 d0 d1 d2 d3
        have hi4 : IntKind.i64.wrap ((i : Int) + 1) = (i : Int) + 1 := by rw [IntKind.wrap_i64]; omega
        have kG := fun w => run_gF w .neq (.tmp 33) (.tmp 37) ⟨xa, xf, xt, xl⟩ ⟨ya, yf, yt, yl⟩
        have kN := fun w => run_neF w ⟨xa, xf, xt, xl⟩ ⟨ya, yf, yt, yl⟩
        unfold frV at kG kN
        simp only [] at kG kN
        replace hx := Lib.hid hx
        replace hy := Lib.hid hy
        clear hc hc' hI
        by_cases he : (⟨xa, xf, xt, xl⟩ : Fr) = ⟨ya, yf, yt, yl⟩
        · rw [if_pos he] at hI2
          rw [decide_eq_true he] at kN
          simp only [Bool.not_true] at kN
          replace hI2 := Lib.hid hI2
          clear he
          go_upto_region 4 with fail
          go_quiet (fail)
          go_wp2
          exact ⟨⟨i + 1, by omega, by simp, hI2, ht.drewN _⟩, by simp [intOf]; omega⟩
        · rw [if_neg he] at hI2
          subst hI2
          rw [decide_eq_false he] at kN
          simp only [Bool.not_false] at kN
          clear he hres
          go_upto_region 4 with fail
          go_quiet (fail)
          go_wp2
          go_ret2
          exact ⟨rfl, ht.drewN _⟩
      · have x2 : ¬ (i : Int) < (lb : Int) := by omega
        have y2 : decide ((lb : Int) ≤ (i : Int)) = true := decide_eq_true (by omega)
        have y2n : decide (lb ≤ i) = true := decide_eq_true (by omega)
        have hI2 := hI.out
        rw [dif_one A B i (by have := hla.out; have := hlb.out; omega)] at hI2
        subst hI2
        clear hI hres
        go_upto_region 4 with fail
        go_quiet (fail)
        go_wp2
        go_ret2
        exact ⟨rfl, ht.drewN _⟩
    · have x1 : ¬ (i : Int) < (la : Int) := by omega
      have y1 : decide ((la : Int) ≤ (i : Int)) = true := decide_eq_true (by omega)
      have y1n : decide (la ≤ i) = true := decide_eq_true (by omega)
      by_cases hB1 : i < lb
      · have x2 : (i : Int) < (lb : Int) := by omega
        have hI2 := hI.out
        rw [dif_one A B i (by have := hla.out; have := hlb.out; omega)] at hI2
        subst hI2
        clear hI hres
        go_upto_region 4 with fail
        go_quiet (fail)
        go_wp2
        go_ret2
        exact ⟨rfl, ht.drewN _⟩
      · have x2 : ¬ (i : Int) < (lb : Int) := by omega
        have hI2 := hI.out
        rw [dif_no A B i (by have := hla.out; omega) (by have := hlb.out; omega)] at hI2
        subst hI2
        clear hI hres
        go_wp2
        go_ret2
        exact ⟨rfl, ht⟩

end Go.Proofs.Ytkoplgpobagfoaa
