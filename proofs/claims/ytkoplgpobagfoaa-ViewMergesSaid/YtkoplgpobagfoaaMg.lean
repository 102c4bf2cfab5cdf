/-
  Layer 27: the law ViewMerges, walked.
-/
import Derived.Test.YtkoplgpobagfoaaMp
import Derived.Test.YtkoplgpobagfoaaWi
import Derived.Test.YtkoplgpobagfoaaDf
import Derived.Test.YtkoplgpobagfoaaWk
import Derived.Test.YtkoplgpobagfoaaFrs
namespace Go.Proofs.Ytkoplgpobagfoaa
open Go.RowKit
set_option linter.unusedVariables false
set_option linter.unusedSimpArgs false

/-- Two views in a new row of two. -/
theorem Vws.two {w : World} {va vb : Value} {A B : List Fr} (hA : FrA w va A) (hB : FrA w vb B) :
    Vws (w.alloc (.cells #[va, vb] 22)) (some ⟨w.heap.size, 0, none⟩) 2 [(va, A), (vb, B)] := by
  have hg := heap_new w (.cells #[va, vb] 22)
  have t := (Touch.refl Nothing w).alloc (.cells #[va, vb] 22)
  refine ⟨Nat.le_refl _, fun i hi => ?_⟩
  have h2 : i = 0 ∨ i = 1 := by simp at hi; omega
  rcases h2 with rfl | rfl
  · exact ⟨⟨_, 0, rfl, cell_blk hg 0⟩, hA.keep t (fun _ _ _ _ _ q => q)⟩
  · exact ⟨⟨_, 0, rfl, cell_blk hg 1⟩, hB.keep t (fun _ _ _ _ _ q => q)⟩

theorem RowA.toA {w0 w : World} {v : Value} {L : List Fr} (h : RowA w0 w v L) : FrA w v L := by
  rcases h with h | ⟨g, c, hv, hr, hc, _⟩
  · exact .inl h
  · exact .inr ⟨_, c, hv, hr.sl hc⟩

theorem at_facts (z : Int) : ∃ at_ U : Int, 0 ≤ at_ ∧ at_ < 1073741824 ∧ IntKind.u64.wrap z = U ∧ U.tmod 1073741824 = at_ ∧ IntKind.u64.wrap at_ = at_ ∧ IntKind.i64.wrap at_ = at_ ∧ IntKind.i64.wrap (at_ + 1) = at_ + 1 := by
  have h0 : 0 ≤ IntKind.u64.wrap z := by rw [IntKind.wrap_u64]; omega
  have h1 := Int.tmod_eq_emod_of_nonneg h0 (b := 1073741824)
  refine ⟨_, _, ?_, ?_, rfl, rfl, ?_, wraps_i64 _ (by omega) (by omega), wraps_i64 _ (by omega) (by omega)⟩
  · omega
  · omega
  · rw [IntKind.wrap_u64 ((IntKind.u64.wrap z).tmod 1073741824)]
    omega

set_option maxRecDepth 100000 in
set_option maxHeartbeats 6400000 in
theorem viewMerges_walk (w : World) (p q : Option Addr) (c d : Nat) (A B : List Fr) (hA : FrA w (.slice p A.length c) A) (hB : FrA w (.slice q B.length d) B) (hl : A.length * 32 ≤ 140737488351232) (hl2 : B.length * 32 ≤ 140737488351232) (z : Int) :
    Calls Try.prog 10 #[.slice p A.length c, .slice q B.length d, .int .i64 z] w fun r w' => r = .returned (.bool true) ∧ Touch Nothing w w' := by
  have hfA : ∀ w', Touch Nothing w w' → FrA w' (.slice p A.length c) A := fun w' ht => hA.keep ht (fun _ _ _ _ _ q => q)
  have hfB : ∀ w', Touch Nothing w w' → FrA w' (.slice q B.length d) B := fun w' ht => hB.keep ht (fun _ _ _ _ _ q => q)
  have hsA : ∀ w', Touch Nothing w w' → FrSl w' p c A := fun w' ht => by
    obtain ⟨p', c', e, hs⟩ := (hfA w' ht).sl
    cases e
    exact hs
  have hsB : ∀ w', Touch Nothing w w' → FrSl w' q d B := fun w' ht => by
    obtain ⟨p', c', e, hs⟩ := (hfB w' ht).sl
    cases e
    exact hs
  have hJ : ∀ w', Touch Nothing w w' → Calls Try.prog 30 #[.slice (some ⟨w'.heap.size, 0, none⟩) 2 2] (w'.alloc (.cells #[.slice p A.length c, .slice q B.length d] 22)) (RowPost (w'.alloc (.cells #[.slice p A.length c, .slice q B.length d] 22)) (joinR [A, B])) := fun w' ht =>
    Join_any _ _ 2 [(_, A), (_, B)] (Vws.two (hfA w' ht) (hfB w' ht)) (by simp)
  have hW := Lib.hid (fun w => works_any w)
  obtain ⟨n, hn⟩ : ∃ n, n = A.length := ⟨_, rfl⟩
  obtain ⟨m, hm⟩ : ∃ m, m = B.length := ⟨_, rfl⟩
  rw [← hn] at hl
  rw [← hm] at hl2
  obtain ⟨nm, hnm⟩ : ∃ k, k = n + m := ⟨_, rfl⟩
  have x1 : (n : Int) + (m : Int) = (nm : Int) := by omega
  have x2 : IntKind.i64.wrap (nm : Int) = (nm : Int) := wraps_i64 _ (by omega) (by omega)
  by_cases hbig : 2000 < nm
  · have x3 : (2000 : Int) < (nm : Int) := by omega
    rw [← hn, ← hm]
    clear hfA hfB hsA hsB hJ hA hB hn hm hnm
    go_enter Try.func10, Try.ntmps10
    go_wp2_with (first | (go_at_call 17; refine (hW.out _).mono ?_; rintro r w1 ⟨rfl, t1⟩))
    go_ret
    exact ⟨rfl, t1⟩
  have x3 : ¬ (2000 : Int) < (nm : Int) := by omega
  by_cases he : (joinR [A, B]).2 = 0
  · obtain ⟨cA, cB, hJe, hlen, hcJ, hJl⟩ := join2_ok he
    obtain ⟨at_, U, b0, b1, v1, v2, v3, v4, v5⟩ := at_facts z
    obtain ⟨eX, eY, eZ⟩ := cut_join cA b0 b1
    obtain ⟨X, hX⟩ : ∃ X, X = A.filter (inB 0 at_) := ⟨_, rfl⟩
    obtain ⟨Y, hY⟩ : ∃ Y, Y = A.filter (inB (at_ + 1) 2147483647) := ⟨_, rfl⟩
    have hsub1 := mrg_sub_left _ A B (Nat.le_refl _)
    have hsub2 := mrg_sub_right _ A B (Nat.le_refl _)
    rw [← hX] at eX eZ
    rw [← hY] at eY eZ
    rw [hJe] at hJ
    obtain ⟨J, hJJ⟩ : ∃ J, J = mrg A B := ⟨_, rfl⟩
    rw [← hJJ] at hJ hcJ hJl hsub1 hsub2
    have hBx := fun w' (ht : Touch Nothing w w') => Between_any w' _ A (hfA w' ht) 0 at_
    have hBy := fun w' (ht : Touch Nothing w w') => Between_any w' _ A (hfA w' ht) (at_ + 1) 2147483647
    rw [eX] at hBx
    rw [eY] at hBy
    have hJ2 : ∀ w' (va vb : Value) (h1 : FrA w' va Y) (h2 : FrA w' vb X), Calls Try.prog 30 #[.slice (some ⟨w'.heap.size, 0, none⟩) 2 2] (w'.alloc (.cells #[va, vb] 22)) (RowPost (w'.alloc (.cells #[va, vb] 22)) (A, 0)) := fun w' va vb h1 h2 => by
      have := Join_any _ _ 2 [(va, Y), (vb, X)] (Vws.two h1 h2) (by simp)
      simp only [List.map_cons, List.map_nil] at this
      rw [eZ] at this
      exact this
    obtain ⟨jn, hjn⟩ : ∃ k, k = J.length := ⟨_, rfl⟩
    have hW1 := fun w' p2 c2 (ht : Touch Nothing w w') (h : FrSl w' p2 c2 J) => within_yes w' p p2 c c2 A J (hsA w' ht) h (by omega) (by omega) hsub1
    have hW2 := fun w' p2 c2 (ht : Touch Nothing w w') (h : FrSl w' p2 c2 J) => within_yes w' q p2 d c2 B J (hsB w' ht) h (by omega) (by omega) hsub2
    have hCh := fun w' p2 c2 (h : FrSl w' p2 c2 J) => Check_any w' p2 c2 J h
    rw [hcJ] at hCh
    have hDf := fun w' p2 c2 (ht : Touch Nothing w w') (h : FrSl w' p2 c2 A) => Differ_any w' p2 p c2 c A A h (hsA w' ht) (by omega) (by omega)
    rw [dif_self] at hDf
    unfold RowPost at hJ hBx hBy hJ2
    simp only [] at hJ hBx hBy hJ2 hCh hDf
    obtain rfl : jn = nm := by omega
    rw [← hn] at hJ hBx hBy hW1 hDf hJl
    rw [← hm] at hJ hW2 hJl
    rw [← hn, ← hm]
    rw [← hjn] at hW1 hW2 hCh
    have x4 : ((jn : Int) != (jn : Int)) = false := by simp
    replace hJ := Lib.hid hJ
    replace hBx := Lib.hid hBx
    replace hBy := Lib.hid hBy
    replace hJ2 := Lib.hid hJ2
    replace hW1 := Lib.hid hW1
    replace hW2 := Lib.hid hW2
    replace hCh := Lib.hid hCh
    replace hDf := Lib.hid hDf
    replace hjn := Lib.hid hjn
    replace hn := Lib.hid hn
    clear hfA hfB hsA hsB hA hB hm hnm hJl he hJe hcJ eX eY eZ hsub1 hsub2 hJJ hX hY cA cB hlen
    go_enter Try.func10, Try.ntmps10
    go_wp2_with (first
      | (go_at_call 17; refine (hW.out _).mono ?_; rintro r w1 ⟨rfl, t1⟩)
      | (go_at_call 30; refine (hJ.out _ t1).mono ?_; rintro r w2 ⟨v2, rfl, hR2, t2⟩; obtain ⟨p2, c2, rfl, hs2⟩ := hR2.sl; rewrite [← hjn.out]; replace hs2 := Lib.hid hs2; have T2 := Lib.hid ((t1.alloc (.cells #[.slice p n c, .slice q m d] 22)).trans' t2); clear hR2 t2 t1)
      | (go_at_call_of 32 (Value.slice p n c); refine (hW1.out _ p2 c2 T2.out hs2.out).mono ?_; rintro r w3 ⟨rfl, t3⟩; have T3 := Lib.hid (T2.out.trans' t3); have hs3 := Lib.hid (hs2.out.keep t3 (fun _ _ q => q)); clear t3 T2 hs2)
      | (go_at_call_of 32 (Value.slice q m d); refine (hW2.out _ p2 c2 T3.out hs3.out).mono ?_; rintro r w4 ⟨rfl, t4⟩; have T4 := Lib.hid (T3.out.trans' t4); have hs4 := Lib.hid (hs3.out.keep t4 (fun _ _ q => q)); clear t4 T3 hs3)
      | (go_at_call 21; refine (hCh.out _ p2 c2 hs4.out).mono ?_; rintro r w5 ⟨rfl, t5⟩; have T5 := Lib.hid (T4.out.trans' t5); clear t5 T4 hs4)
      | (go_at_call 25; refine (hBx.out _ T5.out).mono ?_; rintro r w6 ⟨v6, rfl, hX6, t6⟩; have T6 := Lib.hid (T5.out.trans' t6); have A6 := hX6.toA; obtain ⟨p6, c6, rfl, _⟩ := hX6.sl; replace A6 := Lib.hid A6; clear t6 T5 hX6)
      | (go_at_call 25; refine (hBy.out _ T6.out).mono ?_; rintro r w7 ⟨v7, rfl, hY7, t7⟩; have T7 := Lib.hid (T6.out.trans' t7); have A7 := hY7.toA; obtain ⟨p7, c7, rfl, _⟩ := hY7.sl; replace A7 := Lib.hid A7; have B7 := Lib.hid (A6.out.keep t7 (fun _ _ _ _ _ q => q)); clear t7 T6 hY7 A6)
      | (go_at_call 30; refine (hJ2.out _ (.slice p7 Y.length c7) (.slice p6 X.length c6) A7.out B7.out).mono ?_; rintro r w8 ⟨v8, rfl, hR8, t8⟩; obtain ⟨p8, c8, rfl, hs8⟩ := hR8.sl; rewrite [← hn.out]; replace hs8 := Lib.hid hs8; have T8 := Lib.hid ((T7.out.alloc (.cells #[.slice p7 Y.length c7, .slice p6 X.length c6] 22)).trans' t8); clear hR8 t8 T7 A7 B7)
      | (go_at_call 14; refine (hDf.out _ p8 c8 T8.out hs8.out).mono ?_; rintro r w9 ⟨rfl, t9⟩; have T9 := T8.out.trans' t9; clear t9 T8 hs8))
    go_ret
    exact ⟨rfl, T9⟩
  · have hj := join2_bad he
    obtain ⟨⟨J, e⟩, hJe⟩ : ∃ x, x = joinR [A, B] := ⟨_, rfl⟩
    rw [← hJe] at hJ he hj
    simp only [] at he hj
    subst hj
    unfold RowPost at hJ
    simp only [] at hJ
    rw [← hn, ← hm] at hJ ⊢
    have e1 : (e == 0) = false := by simp [he]
    have e2 : (e != 0) = true := by simp [he]
    replace hJ := Lib.hid hJ
    clear hfA hfB hsA hsB hA hB hJe hn hm hnm
    go_enter Try.func10, Try.ntmps10
    go_wp2_with (first
      | (go_at_call 17; refine (hW.out _).mono ?_; rintro r w1 ⟨rfl, t1⟩)
      | (go_at_call 30; refine (hJ.out _ t1).mono ?_; rintro r w2 ⟨v2, rfl, hR2, t2⟩; obtain ⟨p2, c2, rfl, _⟩ := hR2.sl; simp only [List.length_nil]; replace t2 := (t1.alloc (.cells #[.slice p n c, .slice q m d] 22)).trans' t2))
    go_ret
    exact ⟨rfl, t2⟩

theorem ViewMerges_walk (w : World) (a : Option Addr) (c : Nat) (L : List Fr) (h : FrA w (.slice a L.length c) L) (hz : ∀ x ∈ L, x.inR) (hl : L.length * 32 ≤ 140737488351232)
    (a2 : Option Addr) (c2 : Nat) (L2 : List Fr) (h2 : FrA w (.slice a2 L2.length c2) L2) (hz2 : ∀ x ∈ L2, x.inR) (hl2 : L2.length * 32 ≤ 140737488351232) (b : Int) (hb : -9223372036854775808 ≤ b ∧ b ≤ 9223372036854775807) :
    Calls Try.prog 10 #[.slice a L.length c, .slice a2 L2.length c2, .int .i64 b] w fun r w' => r = .returned (.bool true) ∧ Below w.heap.size w w' :=
  (viewMerges_walk w a a2 c c2 L L2 h h2 hl hl2 b).mono fun r w' q => ⟨q.1, q.2.toBelow0 fun _ _ q => q⟩

end Go.Proofs.Ytkoplgpobagfoaa
