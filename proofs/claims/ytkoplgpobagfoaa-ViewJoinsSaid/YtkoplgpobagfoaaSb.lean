/-
  Two stretches of a row change places: swapRange and rotate, walked. Printed by mksb.py.
-/
import Derived.Test.YtkoplgpobagfoaaSa
namespace Go.Proofs.Ytkoplgpobagfoaa
open Go.RowKit
set_option linter.unusedVariables false
set_option linter.unusedSimpArgs false

/-- The first k of U and of V have changed places. -/
def swp (P U Q V S : List Fr) (k : Nat) : List Fr := P ++ (V.take k ++ (U.drop k ++ (Q ++ (U.take k ++ (V.drop k ++ S)))))

theorem swp_zero (P U Q V S : List Fr) : swp P U Q V S 0 = P ++ (U ++ (Q ++ (V ++ S))) := by simp [swp]
theorem swp_all (P U Q V S : List Fr) (h : U.length = V.length) : swp P U Q V S U.length = P ++ (V ++ (Q ++ (U ++ S))) := by
  unfold swp
  rw [List.take_of_length_le (l := V) (by omega), List.drop_of_length_le (l := U) (Nat.le_refl _), List.take_of_length_le (l := U) (Nat.le_refl _), List.drop_of_length_le (l := V) (by omega)]
  simp
theorem swp_form (P U Q V S : List Fr) (k : Nat) (hu : k < U.length) (hv : k < V.length) : swp P U Q V S k = (P ++ V.take k) ++ U[k] :: ((U.drop (k + 1) ++ (Q ++ U.take k)) ++ V[k] :: (V.drop (k + 1) ++ S)) := by
  unfold swp
  rw [List.drop_eq_getElem_cons hu, List.drop_eq_getElem_cons hv]
  simp only [List.append_assoc, List.cons_append]
theorem swp_next (P U Q V S : List Fr) (k : Nat) (hu : k < U.length) (hv : k < V.length) : (P ++ V.take k) ++ V[k] :: ((U.drop (k + 1) ++ (Q ++ U.take k)) ++ U[k] :: (V.drop (k + 1) ++ S)) = swp P U Q V S (k + 1) := by
  unfold swp
  rw [List.take_succ_eq_append_getElem hu, List.take_succ_eq_append_getElem hv]
  simp only [List.append_assoc, List.cons_append, List.nil_append]
theorem swp_len (P U Q V S : List Fr) (k : Nat) : (swp P U Q V S k).length = P.length + U.length + Q.length + V.length + S.length := by
  unfold swp
  simp
  omega

theorem row_at {w : World} {g : Nat} {X : List Fr} (h : RowF w g X) {i : Nat} {x : Fr} (hx : X[i]? = some x) : w.rangeAt g (i * 4) (frCs x) := by
  obtain ⟨hi, e⟩ := List.getElem?_eq_some_iff.1 hx
  rw [← e]
  exact h.rng i hi

set_option maxRecDepth 100000 in
set_option maxHeartbeats 3200000 in
theorem swapR_any (w : World) (g c : Nat) (fv : Value) (P U Q V S : List Fr) (hUV : U.length = V.length) (m a b n : Nat) (ha : a = P.length) (hb : b = P.length + U.length + Q.length) (hn : n = U.length)
    (hm : m = P.length + U.length + Q.length + V.length + S.length) (hR : RowF w g (P ++ (U ++ (Q ++ (V ++ S))))) (hml : m ≤ 1048576) :
    Calls Try.prog 58 #[.slice (some ⟨g, 0, none⟩) m c, .int .i64 (a : Int), .int .i64 (b : Int), .int .i64 (n : Int), fv] w fun r w' => r = .returned (.tuple #[]) ∧ RowF w' g (P ++ (V ++ (Q ++ (U ++ S)))) ∧ Touch (fun k => k = g) w w' := by
  have hbn : b + n ≤ m := by omega
  have hab : a ≤ b := by omega
  rw [← swp_zero] at hR
  rw [← swp_all P U Q V S hUV]
  replace hR := Lib.hid hR
  replace ha := Lib.hid ha
  replace hb := Lib.hid hb
  replace hn := Lib.hid hn
  replace hm := Lib.hid hm
  replace hUV := Lib.hid hUV
  go_enter Try.func58, Try.ntmps58
  go_wp2
  go_loopw [10] (fun iv wr => ∃ k : Nat, k ≤ n ∧ iv = .int .i64 (k : Int) ∧ Hid (RowF wr g (swp P U Q V S k)) ∧ Touch (fun k => k = g) w wr) (fun iv _ => n - (intOf iv).toNat)
  case atStart => exact ⟨0, Nat.zero_le _, rfl, hR, Touch.refl _ _⟩
  case round =>
    obtain ⟨k, hk, rfl, hX, ht⟩ := hrel
    by_cases hlt : k < n
    · have hlti : (k : Int) < (n : Int) := by omega
      have hu : k < U.length := by rw [← hn.out]; exact hlt
      have hv : k < V.length := by rw [← hUV.out]; exact hu
      obtain ⟨x, hx⟩ : ∃ x, x = U[k] := ⟨_, rfl⟩
      obtain ⟨y, hy⟩ : ∃ y, y = V[k] := ⟨_, rfl⟩
      have hf := swp_form P U Q V S k hu hv
      have hg := swp_next P U Q V S k hu hv
      rw [← hx, ← hy] at hf hg
      have hl1 : (P ++ V.take k).length = a + k := by rw [List.length_append, List.length_take, ha.out]; omega
      have hl2 : (P ++ V.take k).length + 1 + (U.drop (k + 1) ++ (Q ++ U.take k)).length = b + k := by rw [hl1, List.length_append, List.length_append, List.length_drop, List.length_take, hb.out]; have := ha.out; omega
      have e0 := at_left (P ++ V.take k) x ((U.drop (k + 1) ++ (Q ++ U.take k)) ++ y :: (V.drop (k + 1) ++ S))
      have e1 := at_right (P ++ V.take k) x (U.drop (k + 1) ++ (Q ++ U.take k)) y (V.drop (k + 1) ++ S)
      have e2 := exch2 (P ++ V.take k) x (U.drop (k + 1) ++ (Q ++ U.take k)) y (V.drop (k + 1) ++ S)
      rw [hl2] at e1 e2
      rw [hl1] at e0 e2
      rw [← hf] at e0 e1 e2
      rw [hg] at e2
      have hXl := swp_len P U Q V S k
      rw [← hm.out] at hXl
      obtain ⟨X, hXe⟩ : ∃ X, X = swp P U Q V S k := ⟨_, rfl⟩
      rw [← hXe] at hX e0 e1 e2 hXl
      have hpa : a + k < X.length := by rw [hXl]; omega
      have hpb : b + k < X.length := by rw [hXl]; omega
      have rx := fun (w' : World) (h : RowF w' g X) => row_at h e0
      have ry := fun (w' : World) (h : RowF w' g X) => row_at h e1
      replace e2 := Lib.hid e2
      clear hf hg hl1 hl2 e0 e1 hXe hx hy
      go_upto_region 3 with fail

      refine wp_region_stage (S := fun w' => RowF w' g X) (by kernel_rfl) ?_
      have hS0 : RowF wr.drew g X := hX.out
      refine g_pure (i := 0) rfl (by kernel_rfl) (by kernel_rfl) (by kernel_rfl) (by kernel_rfl) rfl (fun _ _ _ h => h) (fun w9 => run_move rfl rfl) (fun _ => hS0) ?_
      simp only [Act.put, List.setIfInBounds_toArray, List.set_cons_zero, List.set_cons_succ]
      refine g_pure (i := 1) rfl (by kernel_rfl) (by kernel_rfl) (by kernel_rfl) (by kernel_rfl) rfl (fun _ _ _ h => h) (fun w9 => run_move rfl rfl) (fun _ => hS0) ?_
      simp only [Act.put, List.setIfInBounds_toArray, List.set_cons_zero, List.set_cons_succ]
      refine g_pure (i := 2) rfl (by kernel_rfl) (by kernel_rfl) (by kernel_rfl) (by kernel_rfl) rfl (fun _ _ _ h => h) (fun w9 => run_move rfl rfl) (fun _ => hS0) ?_
      simp only [Act.put, List.setIfInBounds_toArray, List.set_cons_zero, List.set_cons_succ]
      refine g_pure (i := 3) rfl (by kernel_rfl) (by kernel_rfl) (by kernel_rfl) (by kernel_rfl) rfl (fun _ _ _ h => h) (fun w9 => run_add ((a + k : Nat) : Int) rfl rfl rfl (by omega) (by omega) (by omega)) (fun _ => hS0) ?_
      simp only [Act.put, List.setIfInBounds_toArray, List.set_cons_zero, List.set_cons_succ]
      refine g_pure (i := 4) rfl (by kernel_rfl) (by kernel_rfl) (by kernel_rfl) (by kernel_rfl) rfl (fun _ _ _ h => h) (fun w9 => run_move rfl rfl) (fun _ => hS0) ?_
      simp only [Act.put, List.setIfInBounds_toArray, List.set_cons_zero, List.set_cons_succ]
      refine g_pure (i := 5) rfl (by kernel_rfl) (by kernel_rfl) (by kernel_rfl) (by kernel_rfl) rfl (fun _ _ _ h => h) (fun w9 => run_move rfl rfl) (fun _ => hS0) ?_
      simp only [Act.put, List.setIfInBounds_toArray, List.set_cons_zero, List.set_cons_succ]
      refine g_pure (i := 6) rfl (by kernel_rfl) (by kernel_rfl) (by kernel_rfl) (by kernel_rfl) rfl (fun _ _ _ h => h) (fun w9 => run_move rfl rfl) (fun _ => hS0) ?_
      simp only [Act.put, List.setIfInBounds_toArray, List.set_cons_zero, List.set_cons_succ]
      refine g_pure (i := 7) rfl (by kernel_rfl) (by kernel_rfl) (by kernel_rfl) (by kernel_rfl) rfl (fun _ _ _ h => h) (fun w9 => run_add ((b + k : Nat) : Int) rfl rfl rfl (by omega) (by omega) (by omega)) (fun _ => hS0) ?_
      simp only [Act.put, List.setIfInBounds_toArray, List.set_cons_zero, List.set_cons_succ]
      refine g_pure (i := 8) rfl (by kernel_rfl) (by kernel_rfl) (by kernel_rfl) (by kernel_rfl) rfl (fun _ _ _ h => h) (fun w9 => run_move rfl rfl) (fun _ => hS0) ?_
      simp only [Act.put, List.setIfInBounds_toArray, List.set_cons_zero, List.set_cons_succ]
      refine g_pure (i := 9) rfl (by kernel_rfl) (by kernel_rfl) (by kernel_rfl) (by kernel_rfl) rfl (fun _ _ _ h => h) (fun w9 => run_move rfl rfl) (fun _ => hS0) ?_
      simp only [Act.put, List.setIfInBounds_toArray, List.set_cons_zero, List.set_cons_succ]
      refine g_pure (i := 10) rfl (by kernel_rfl) (by kernel_rfl) (by kernel_rfl) (by kernel_rfl) rfl (fun _ _ _ h => h) (fun w9 => run_move rfl rfl) (fun _ => hS0) ?_
      simp only [Act.put, List.setIfInBounds_toArray, List.set_cons_zero, List.set_cons_succ]
      refine g_pure (i := 11) rfl (by kernel_rfl) (by kernel_rfl) (by kernel_rfl) (by kernel_rfl) rfl (fun _ _ _ h => h) (fun w9 => run_add ((b + k : Nat) : Int) rfl rfl rfl (by omega) (by omega) (by omega)) (fun _ => hS0) ?_
      simp only [Act.put, List.setIfInBounds_toArray, List.set_cons_zero, List.set_cons_succ]
      refine g_pure (i := 12) rfl (by kernel_rfl) (by kernel_rfl) (by kernel_rfl) (by kernel_rfl) rfl (fun _ _ _ h => h) (fun w9 => run_ia22 (b + k) rfl rfl rfl rfl (by omega)) (fun _ => hS0) ?_
      simp only [Act.put, List.setIfInBounds_toArray, List.set_cons_zero, List.set_cons_succ]
      refine g_read (i := 13) rfl (by kernel_rfl) (by kernel_rfl) (by kernel_rfl) (by kernel_rfl) (by kernel_rfl) rfl (fun _ _ _ h => h) (fun w9 hS => run_ldF (f := y) rfl rfl (ry w9 hS)) hS0 ?_
      simp only [Act.put, List.setIfInBounds_toArray, List.set_cons_zero, List.set_cons_succ]
      refine g_pure (i := 14) rfl (by kernel_rfl) (by kernel_rfl) (by kernel_rfl) (by kernel_rfl) rfl (fun _ _ _ h => h) (fun w9 => run_move rfl rfl) (fun _ => hS0) ?_
      simp only [Act.put, List.setIfInBounds_toArray, List.set_cons_zero, List.set_cons_succ]
      refine g_pure (i := 15) rfl (by kernel_rfl) (by kernel_rfl) (by kernel_rfl) (by kernel_rfl) rfl (fun _ _ _ h => h) (fun w9 => run_move rfl rfl) (fun _ => hS0) ?_
      simp only [Act.put, List.setIfInBounds_toArray, List.set_cons_zero, List.set_cons_succ]
      refine g_pure (i := 16) rfl (by kernel_rfl) (by kernel_rfl) (by kernel_rfl) (by kernel_rfl) rfl (fun _ _ _ h => h) (fun w9 => run_move rfl rfl) (fun _ => hS0) ?_
      simp only [Act.put, List.setIfInBounds_toArray, List.set_cons_zero, List.set_cons_succ]
      refine g_pure (i := 17) rfl (by kernel_rfl) (by kernel_rfl) (by kernel_rfl) (by kernel_rfl) rfl (fun _ _ _ h => h) (fun w9 => run_add ((a + k : Nat) : Int) rfl rfl rfl (by omega) (by omega) (by omega)) (fun _ => hS0) ?_
      simp only [Act.put, List.setIfInBounds_toArray, List.set_cons_zero, List.set_cons_succ]
      refine g_pure (i := 18) rfl (by kernel_rfl) (by kernel_rfl) (by kernel_rfl) (by kernel_rfl) rfl (fun _ _ _ h => h) (fun w9 => run_ia22 (a + k) rfl rfl rfl rfl (by omega)) (fun _ => hS0) ?_
      simp only [Act.put, List.setIfInBounds_toArray, List.set_cons_zero, List.set_cons_succ]
      refine g_read (i := 19) rfl (by kernel_rfl) (by kernel_rfl) (by kernel_rfl) (by kernel_rfl) (by kernel_rfl) rfl (fun _ _ _ h => h) (fun w9 hS => run_ldF (f := x) rfl rfl (rx w9 hS)) hS0 ?_
      simp only [Act.put, List.setIfInBounds_toArray, List.set_cons_zero, List.set_cons_succ]
      refine g_pure (i := 20) rfl (by kernel_rfl) (by kernel_rfl) (by kernel_rfl) (by kernel_rfl) rfl (fun _ _ _ h => h) (fun w9 => run_ia22 (a + k) rfl rfl rfl rfl (by omega)) (fun _ => hS0) ?_
      simp only [Act.put, List.setIfInBounds_toArray, List.set_cons_zero, List.set_cons_succ]
      refine g_store (i := 21) (by kernel_rfl) (by kernel_rfl) rfl rfl (fun K hK => wp_stF (f := y) (L := X) (i := a + k) rfl rfl rfl hS0 hpa (fun wa ha ta => hK _ _ ?_))
      clear hK K
      simp only [Act.put, List.setIfInBounds_toArray, List.set_cons_zero, List.set_cons_succ]
      refine g_late (i := 22) rfl (by kernel_rfl) (by kernel_rfl) (by kernel_rfl) (by kernel_rfl) rfl (fun _ _ _ h => h) (fun w9 => run_ia22 (b + k) rfl rfl rfl rfl (by omega)) (by kernel_rfl) ?_
      simp only [Act.put, List.setIfInBounds_toArray, List.set_cons_zero, List.set_cons_succ]
      refine g_store (i := 23) (by kernel_rfl) (by kernel_rfl) rfl rfl (fun K hK => wp_stF (f := x) (L := X.set (a + k) y) (i := b + k) rfl rfl rfl ha (by rw [List.length_set]; exact hpb) (fun wb hb2 tb => hK _ _ ?_))
      clear hK K
      simp only [Act.put, List.setIfInBounds_toArray, List.set_cons_zero, List.set_cons_succ]
      refine AnyG.done (by kernel_rfl) ?_ _
      rw [e2.out] at hb2
      have t9 := (ht.drew.trans' ta).trans' tb
      replace hb2 := Lib.hid hb2
      clear hS0 ha ta tb ht hX rx ry
      have e3 : IntKind.i64.wrap ((k : Int) + 1) = (k : Int) + 1 := by rw [IntKind.wrap_i64]; omega
      go_wp2
      exact ⟨⟨k + 1, by omega, by simp, hb2, t9⟩, by simp [intOf]; omega⟩
    · obtain rfl : k = n := by omega
      rw [hn.out] at hX
      go_wp2
      go_end0
      exact ⟨rfl, hX.out, ht⟩

set_option maxRecDepth 100000 in
set_option maxHeartbeats 3200000 in
theorem rotate_any (w : World) (g c : Nat) (fv : Value) (P U V S : List Fr) (hU : 0 < U.length) (hV : 0 < V.length) (n a m b : Nat) (ha : a = P.length) (hm : m = P.length + U.length) (hb : b = P.length + U.length + V.length)
    (hn : n = P.length + U.length + V.length + S.length) (hR : RowF w g (P ++ (U ++ (V ++ S)))) (hnl : n ≤ 1048576) :
    Calls Try.prog 57 #[.slice (some ⟨g, 0, none⟩) n c, .int .i64 (a : Int), .int .i64 (m : Int), .int .i64 (b : Int), fv] w fun r w' => r = .returned (.tuple #[]) ∧ RowF w' g (P ++ (V ++ (U ++ S))) ∧ Touch (fun k => k = g) w w' := by
  obtain ⟨i0, hi0⟩ : ∃ i, i = U.length := ⟨_, rfl⟩
  obtain ⟨j0, hj0⟩ : ∃ j, j = V.length := ⟨_, rfl⟩
  have x1 : (m : Int) - (a : Int) = (i0 : Int) := by omega
  have x2 : IntKind.i64.wrap (i0 : Int) = (i0 : Int) := wraps_i64 _ (by omega) (by omega)
  have x3 : (b : Int) - (m : Int) = (j0 : Int) := by omega
  have x4 : IntKind.i64.wrap (j0 : Int) = (j0 : Int) := wraps_i64 _ (by omega) (by omega)
  obtain ⟨T, hT⟩ : ∃ T, T = P ++ (V ++ (U ++ S)) := ⟨_, rfl⟩
  rw [← hT]
  have hst : Hid (∃ P' U' V' S' : List Fr, i0 = U'.length ∧ j0 = V'.length ∧ P'.length + U'.length = m ∧ P'.length + U'.length + V'.length + S'.length = n ∧ RowF w g (P' ++ (U' ++ (V' ++ S'))) ∧ P' ++ (V' ++ (U' ++ S')) = T) := Lib.hid ⟨P, U, V, S, hi0, hj0, hm.symm, hn.symm, hR, hT.symm⟩
  have y1 : 0 < i0 := by omega
  have y2 : 0 < j0 := by omega
  clear hR hT ha hm hb hn hi0 hj0 hU hV
  go_enter Try.func57, Try.ntmps57
  go_wp2
  clear x1 x2 x3 x4
  go_loopw [10, 11] (fun iv jv wr => ∃ i j : Nat, 0 < i ∧ 0 < j ∧ iv = .int .i64 (i : Int) ∧ jv = .int .i64 (j : Int) ∧ Hid (∃ P' U' V' S' : List Fr, i = U'.length ∧ j = V'.length ∧ P'.length + U'.length = m ∧ P'.length + U'.length + V'.length + S'.length = n ∧ RowF wr g (P' ++ (U' ++ (V' ++ S'))) ∧ P' ++ (V' ++ (U' ++ S')) = T) ∧ Touch (fun k => k = g) w wr) (fun iv jv _ => (intOf iv).toNat + (intOf jv).toNat)
  case atStart => exact ⟨i0, j0, y1, y2, rfl, rfl, hst, Touch.refl _ _⟩
  case round =>
    clear hst y1 y2
    obtain ⟨i, j, y1, y2, rfl, rfl, hst, ht⟩ := hrel
    obtain ⟨P', U', V', S', hi, hj, hmm, hnn, hR, hT⟩ := hst.out
    obtain ⟨q, hq⟩ : ∃ q, q = P'.length := ⟨_, rfl⟩
    have x1 : (m : Int) - (i : Int) = (q : Int) := by omega
    have x2 : IntKind.i64.wrap (q : Int) = (q : Int) := wraps_i64 _ (by omega) (by omega)
    by_cases hij : i = j
    · have e0 : ((i : Int) != (j : Int)) = false := by simp; omega
      have e1 : (i : Int) = (j : Int) := by omega
      have hC := swapR_any wr g c fv P' U' [] V' S' (by omega) n q m i hq (by simp; omega) hi (by simp; omega) (by simpa using hR) hnl
      rw [show P' ++ (V' ++ ([] ++ (U' ++ S'))) = T by rw [← hT]; simp] at hC
      replace hC := Lib.hid hC
      clear hst hi hj hmm hnn hR hT hq
      subst hij
      go_wp2_with (first | (go_at_call 58; refine hC.out.mono ?_; rintro r w2 ⟨rfl, hR2, t2⟩; replace hR2 := Lib.hid hR2))
      go_end0
      exact ⟨rfl, hR2.out, ht.trans' t2⟩
    · have e0 : ((i : Int) != (j : Int)) = true := by simp; omega
      have e1 : ¬ (i : Int) = (j : Int) := by omega
      by_cases hgt : j < i
      · have hgti : (j : Int) < (i : Int) := by omega
        obtain ⟨i', hi'⟩ : ∃ i', i' = i - j := ⟨_, rfl⟩
        have x3 : (i : Int) - (j : Int) = (i' : Int) := by omega
        have x4 : IntKind.i64.wrap (i' : Int) = (i' : Int) := wraps_i64 _ (by omega) (by omega)
        have hl1 : (U'.take j).length = j := by rw [List.length_take]; omega
        have hl2 : (U'.drop j).length = i' := by rw [List.length_drop]; omega
        have hC := swapR_any wr g c fv P' (U'.take j) (U'.drop j) V' S' (by omega) n q m j hq (by rw [hl1, hl2]; omega) hl1.symm (by rw [hl1, hl2]; omega) (by rw [← List.append_assoc (U'.take j), List.take_append_drop]; exact hR) hnl
        have hN : ∀ w2, RowF w2 g (P' ++ (V' ++ (U'.drop j ++ (U'.take j ++ S')))) → Hid (∃ P' U' V' S' : List Fr, i' = U'.length ∧ j = V'.length ∧ P'.length + U'.length = m ∧ P'.length + U'.length + V'.length + S'.length = n ∧ RowF w2 g (P' ++ (U' ++ (V' ++ S'))) ∧ P' ++ (V' ++ (U' ++ S')) = T) := fun w2 h2 => Lib.hid ⟨P' ++ V', U'.drop j, U'.take j, S', hl2.symm, hl1.symm, by rw [List.length_append, hl2]; omega, by rw [List.length_append, hl1, hl2]; omega, by rw [List.append_assoc]; exact h2, by rw [← hT, List.append_assoc, ← List.append_assoc (U'.take j), List.take_append_drop]⟩
        have hz : 0 < i' := by omega
        replace hC := Lib.hid hC
        replace hN := Lib.hid hN
        replace hi' := Lib.hid hi'
        clear hst hi hj hmm hnn hR hT hq hl1 hl2
        go_wp2_with (first | (go_at_call 58; refine hC.out.mono ?_; rintro r w2 ⟨rfl, hR2, t2⟩; have hN2 := hN.out _ hR2; clear hR2))
        exact ⟨⟨i', j, hz, y2, rfl, rfl, hN2, ht.trans' t2⟩, by simp [intOf]; have := hi'.out; omega⟩
      · have hgti : ¬ (j : Int) < (i : Int) := by omega
        obtain ⟨j', hj'⟩ : ∃ j', j' = j - i := ⟨_, rfl⟩
        have x3 : (j : Int) - (i : Int) = (j' : Int) := by omega
        have x4 : IntKind.i64.wrap (j' : Int) = (j' : Int) := wraps_i64 _ (by omega) (by omega)
        obtain ⟨b', hb'⟩ : ∃ b', b' = m + j' := ⟨_, rfl⟩
        have x5 : IntKind.i64.wrap ((m : Int) + (j : Int)) = (m : Int) + (j : Int) := wraps_i64 _ (by omega) (by omega)
        have x6 : (m : Int) + (j : Int) - (i : Int) = (b' : Int) := by omega
        have x7 : IntKind.i64.wrap (b' : Int) = (b' : Int) := wraps_i64 _ (by omega) (by omega)
        have hl1 : (V'.take j').length = j' := by rw [List.length_take]; omega
        have hl2 : (V'.drop j').length = i := by rw [List.length_drop]; omega
        have hC := swapR_any wr g c fv P' U' (V'.take j') (V'.drop j') S' (by omega) n q b' i hq (by rw [hl1]; omega) hi (by rw [hl1, hl2]; omega) (by rw [← List.append_assoc (V'.take j'), List.take_append_drop]; exact hR) hnl
        have hN : ∀ w2, RowF w2 g (P' ++ (V'.drop j' ++ (V'.take j' ++ (U' ++ S')))) → Hid (∃ P' U' V' S' : List Fr, i = U'.length ∧ j' = V'.length ∧ P'.length + U'.length = m ∧ P'.length + U'.length + V'.length + S'.length = n ∧ RowF w2 g (P' ++ (U' ++ (V' ++ S'))) ∧ P' ++ (V' ++ (U' ++ S')) = T) := fun w2 h2 => Lib.hid ⟨P', V'.drop j', V'.take j', U' ++ S', hl2.symm, hl1.symm, by rw [hl2]; omega, by rw [hl1, hl2, List.length_append]; omega, h2, by rw [← hT, ← List.append_assoc (V'.take j'), List.take_append_drop]⟩
        have hz : 0 < j' := by omega
        replace hC := Lib.hid hC
        replace hN := Lib.hid hN
        replace hj' := Lib.hid hj'
        replace hb' := Lib.hid hb'
        clear hst hi hj hmm hnn hR hT hq hl1 hl2
        go_wp2_with (first | (go_at_call 58; refine hC.out.mono ?_; rintro r w2 ⟨rfl, hR2, t2⟩; have hN2 := hN.out _ hR2; clear hR2))
        exact ⟨⟨i, j', y1, hz, rfl, rfl, hN2, ht.trans' t2⟩, by simp [intOf]; have := hj'.out; omega⟩

end Go.Proofs.Ytkoplgpobagfoaa
