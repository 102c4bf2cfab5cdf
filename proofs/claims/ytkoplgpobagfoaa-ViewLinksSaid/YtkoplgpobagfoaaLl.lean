/-
  Layer 27: the law ViewLinks, walked.
-/
import Derived.Test.YtkoplgpobagfoaaRk
import Derived.Test.YtkoplgpobagfoaaDf
import Derived.Test.YtkoplgpobagfoaaLd
import Derived.Test.YtkoplgpobagfoaaWk
import Derived.Test.YtkoplgpobagfoaaFrs
namespace Go.Proofs.Ytkoplgpobagfoaa
open Go.RowKit
set_option linter.unusedVariables false
set_option linter.unusedSimpArgs false

theorem run_neK (w : World) (x y : Fr) : (binOp .neq 29 (frV x) (frV y)).run Try.prog w = .ok (.bool (!decide (x = y))) w := by
  have := run_neq_struct (P := Try.prog) w 29 #[.int .i64 x.a, .int .i64 x.f, .int .i64 x.t, .int .i64 x.l] #[.int .i64 y.a, .int .i64 y.f, .int .i64 y.t, .int .i64 y.l]
  unfold frV
  rw [this]
  have h := run_eq29 w x y
  unfold frV at h
  rw [h]
  rfl

theorem linksR_len (M : List Fr) : (linksR M).1.length ≤ 65536 := by
  by_cases h : (chkR M).2 = 0
  · rw [linksR_ok h]
    have := (sums_of h).kl
    have := (chkR_ok h).1
    simp only []
    omega
  · rw [linksR_bad h]
    simp

set_option maxRecDepth 100000 in
set_option maxHeartbeats 6400000 in
theorem viewLinks_walk (w : World) (p q : Option Addr) (c d : Nat) (A B : List Fr) (hA : FrA w (.slice p A.length c) A) (hB : FrA w (.slice q B.length d) B) (hl : A.length * 32 ≤ 140737488351232) (hl2 : B.length * 32 ≤ 140737488351232) :
    Calls Try.prog 3 #[.slice p A.length c, .slice q B.length d] w fun r w' => r = .returned (.bool true) ∧ Touch Nothing w w' := by
  have hfA : ∀ w', Touch Nothing w w' → FrA w' (.slice p A.length c) A := fun w' ht => hA.keep ht (fun _ _ _ _ _ q => q)
  have hfB : ∀ w', Touch Nothing w w' → FrA w' (.slice q B.length d) B := fun w' ht => hB.keep ht (fun _ _ _ _ _ q => q)
  have hsA : ∀ w', Touch Nothing w w' → FrSl w' p c A := fun w' ht => by
    obtain ⟨p', c', e, hs⟩ := (hfA w' ht).sl
    cases e
    exact hs
  have hsB : ∀ w', Touch Nothing w w' → FrSl w' q d B := fun w' ht => by
    obtain ⟨p', c', e, hs⟩ := (hfB w' ht).sl
    cases e
    exact hs
  have hkl := linksR_len A
  obtain ⟨⟨K, e⟩, hKe⟩ : ∃ x, x = linksR A := ⟨_, rfl⟩
  rw [← hKe] at hkl
  obtain ⟨kn, hkn⟩ : ∃ n, n = K.length := ⟨_, rfl⟩
  simp only [] at hkl
  rw [← hkn] at hkl
  have hpost : ∀ w' r w2, LinksPost w' (linksR A) r w2 → (∃ p1 c1, r = .returned (.tuple #[.slice p1 kn c1, .int .i64 e]) ∧ FrSl w2 p1 c1 K) ∧ Touch Nothing w' w2 := fun w' r w2 h => by
    rw [← hKe] at h
    obtain ⟨v, h1, h2, h3⟩ := h
    obtain ⟨p1, c1, rfl, hs⟩ := h2.sl
    rw [← hkn] at h1
    exact ⟨⟨p1, c1, h1, hs⟩, h3⟩
  have hLd := lend_any w _ A hA hl
  have hLb := fun w' (ht : Touch Nothing w w') => lend_any w' _ B (hfB w' ht) hl2
  have hLk := fun w' g d (hL : Lent w' g d A) => (Links_all w' _ A hL.toA).mono (hpost w')
  have hRk := fun w' (ht : Touch Nothing w w') => (Links_ref w' p c A (hsA w' ht)).mono (hpost w')
  have hDf := fun w' g1 c1 g2 c2 (h1 : Lent w' g1 c1 A) (h2 : Lent w' g2 c2 B) => Differ_any w' _ _ c1 c2 A B h1.sl h2.sl (by omega) (by omega)
  have hDr := fun w' (ht : Touch Nothing w w') => Differ_ref w' p q c d A B (hsA w' ht) (hsB w' ht) (by omega) (by omega)
  have hKp := fun w' g d (hL : Lent w' g d A) (ht : Touch Nothing w w') => kept_any w' _ A g d hL (hfA w' ht) (by omega)
  have hW := Lib.hid (fun w => works_any w)
  obtain ⟨⟨D, F⟩, hDF⟩ : ∃ x, x = dif 0 A B := ⟨_, rfl⟩
  rw [← hDF] at hDf hDr
  simp only [] at hDf hDr
  have x1 : ((kn : Int) != (kn : Int)) = false := by simp
  have x2 : (e != e) = false := by simp
  have x3 : (D == D) = true := by simp
  have x4 : (F == F) = true := by simp
  obtain ⟨n, hn⟩ : ∃ n, n = A.length := ⟨_, rfl⟩
  obtain ⟨m, hm⟩ : ∃ m, m = B.length := ⟨_, rfl⟩
  rw [← hn] at hLd hLk hRk hDf hDr hKp ⊢
  rw [← hm] at hLb hDf hDr ⊢
  replace hLd := Lib.hid hLd
  replace hLb := Lib.hid hLb
  replace hLk := Lib.hid hLk
  replace hRk := Lib.hid hRk
  replace hDf := Lib.hid hDf
  replace hDr := Lib.hid hDr
  replace hKp := Lib.hid hKp
  replace hkn := Lib.hid hkn
  clear hfA hfB hsA hsB hA hB hpost hKe hDF hn hm hl hl2
  go_enter Try.func3, Try.ntmps3
  go_wp2_with (first
    | (go_at_call 11; refine hLd.out.mono ?_; rintro r w1 ⟨g, d1, rfl, hL1, hgw, t1⟩; replace hL1 := Lib.hid hL1)
    | (go_at_call 12; refine (hLk.out _ g d1 hL1.out).mono ?_; rintro r w2 ⟨⟨p2, c2, rfl, hs2⟩, t2⟩; have hL2 := Lib.hid (hL1.out.keep t2 (fun q => q)); replace hs2 := Lib.hid hs2; have T2 := Lib.hid (t1.trans' t2); clear t2 hL1)
    | (go_at_call 13; refine (hRk.out _ T2.out).mono ?_; rintro r w3 ⟨⟨p3, c3, rfl, hs3⟩, t3⟩; have hL3 := Lib.hid (hL2.out.keep t3 (fun q => q)); have hs2b := Lib.hid (hs2.out.keep t3 (fun _ _ q => q)); replace hs3 := Lib.hid hs3; have T3 := Lib.hid (T2.out.trans' t3); clear t3 hL2 T2 hs2))
  clear t1 hLk hRk
  go_loopw [10] (fun iv wr => ∃ i : Nat, i ≤ kn ∧ iv = .int .i64 (i : Int) ∧ Touch Nothing w3 wr) (fun iv _ => kn - (intOf iv).toNat)
  case atStart => exact ⟨0, Nat.zero_le _, rfl, Touch.refl _ _⟩
  case round =>
    obtain ⟨i, hi, rfl, ht⟩ := hrel
    by_cases hlt : i < kn
    · have hiK : i < K.length := by rw [← hkn.out]; exact hlt
      obtain ⟨g1, o1, e1, hr1⟩ := (hs2b.out.keep ht (fun _ _ q => q)).2 i hiK
      obtain ⟨g2, o2, e2, hr2⟩ := (hs3.out.keep ht (fun _ _ q => q)).2 i hiK
      subst e1 e2
      obtain ⟨x, hx⟩ : ∃ x, x = K[i] := ⟨_, rfl⟩
      rw [← hx] at hr1 hr2
      have kG := fun w => run_gK w .neq (.tmp 46) (.tmp 50) x x
      have kN := fun w => run_neK w x x
      rw [decide_eq_true rfl] at kN
      obtain ⟨xa, xf, xt, xl⟩ := x
      obtain ⟨c0, c1, c2', c3'⟩ := fr_cells hr1
      obtain ⟨d0, d1', d2, d3⟩ := fr_cells hr2
      simp only [] at c0 c1 c2' c3' d0 d1' d2 d3
      unfold frV at kG kN
      simp only [Bool.not_true] at kG kN
      have k0 : (0 : Int) ≤ (i : Int) := by omega
      have k1 : (i : Int) < (kn : Int) := by omega
      have k2 : IntKind.i64.wrap ((i : Int) + 1) = (i : Int) + 1 := by rw [IntKind.wrap_i64]; omega
      replace hx := Lib.hid hx
      clear hr1 hr2 x1 x2 x3 x4
      go_upto_region 9 with fail
      go_quiet (fail)
      go_wp2
      exact ⟨⟨i + 1, by omega, by simp, ht.drewN _⟩, by simp [intOf]; omega⟩
    · have k1 : ¬ (i : Int) < (kn : Int) := by omega
      have T4 := Lib.hid (T3.out.trans' ht)
      have hL4 := Lib.hid (hL3.out.keep ht (fun q => q))
      clear ht T3 hL3 hs2b hs3
      go_wp2_with (first
        | (go_at_call 11; refine (hLb.out _ T4.out).mono ?_; rintro r w5 ⟨g5, d5, rfl, hL5, hgw5, t5⟩; have T5 := Lib.hid (T4.out.trans' t5); have hA5 := Lib.hid (hL4.out.keep t5 (fun q => q)); replace hL5 := Lib.hid hL5; clear t5 T4 hL4)
        | (go_at_call 14; refine (hDf.out _ g d1 g5 d5 hA5.out hL5.out).mono ?_; rintro r w6 ⟨rfl, t6⟩; have T6 := Lib.hid (T5.out.trans' t6); have hA6 := Lib.hid (hA5.out.keep t6 (fun q => q)); clear t6 T5 hA5 hL5)
        | (go_at_call 15; refine (hDr.out _ T6.out).mono ?_; rintro r w7 ⟨rfl, t7⟩; have T7 := Lib.hid (T6.out.trans' t7); have hA7 := Lib.hid (hA6.out.keep t7 (fun q => q)); clear t7 T6 hA6)
        | (go_at_call 16; refine (hKp.out _ g d1 hA7.out T7.out).mono ?_; rintro r w8 ⟨rfl, t8⟩; have T8 := T7.out.trans' t8; clear t8 T7 hA7)
        | (go_at_call 17; refine (hW.out _).mono ?_; rintro r w9 ⟨rfl, t9⟩; have T9 := T8.trans' t9; clear t9 T8))
      go_ret
      exact ⟨rfl, T9⟩

theorem ViewLinks_walk (w : World) (a : Option Addr) (c : Nat) (L : List Fr) (h : FrA w (.slice a L.length c) L) (hz : ∀ x ∈ L, x.inR) (hl : L.length * 32 ≤ 140737488351232)
    (a2 : Option Addr) (c2 : Nat) (L2 : List Fr) (h2 : FrA w (.slice a2 L2.length c2) L2) (hz2 : ∀ x ∈ L2, x.inR) (hl2 : L2.length * 32 ≤ 140737488351232) :
    Calls Try.prog 3 #[.slice a L.length c, .slice a2 L2.length c2] w fun r w' => r = .returned (.bool true) ∧ Below w.heap.size w w' :=
  (viewLinks_walk w a a2 c c2 L L2 h h2 hl hl2).mono fun r w' q => ⟨q.1, q.2.toBelow0 fun _ _ q => q⟩

end Go.Proofs.Ytkoplgpobagfoaa
