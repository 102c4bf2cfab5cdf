/-
  Layer 11 (mail): Decode of a message of kind 1; Decode whole. Printed by mkmn.py.
-/
import Derived.Test.YtoegkcjclgmnbaaMm
namespace Go.Proofs.Ytoegkcjclgmnbaa
open Go.RowKit
set_option linter.unusedVariables false
set_option linter.unusedSimpArgs false

set_option maxRecDepth 100000 in
set_option maxHeartbeats 3200000 in
theorem Decode_one (w : World) (m : Ml) (hc : chkM m = true) (hk : m.k = 1) :
    Calls Try.prog 23 #[.string ⟨(encM m).toArray⟩] w fun r w' => ∃ v, r = .returned (.tuple #[v, .int .i64 0]) ∧ MlA w' v m ∧ Touch Nothing w w' := by
  obtain ⟨hu, hq, hxs, hg0, hs0, hi0⟩ := one_facts hc hk
  obtain ⟨n, hn⟩ : ∃ n, n = 505 := ⟨_, rfl⟩
  have hLg := fun w' => Long_any w' m.k n (.inl ⟨hk, hn⟩)
  have hE : encM m = bt m.k :: tx m.x := by unfold encM; rw [if_pos hk]
  have hel : (encM m).length = n := by rw [hE, List.length_cons, tx_len, hxs, hn]
  have hkb : ((bt m.k).toNat : Int) = m.k := bt_int _ (by omega) (by omega)
  obtain ⟨bk, ebk⟩ : ∃ b, b = bt m.k := ⟨_, rfl⟩
  obtain ⟨T, hT⟩ : ∃ T, T = tx m.x := ⟨_, rfl⟩
  rw [← ebk] at hkb hE
  rw [← hT] at hE
  rw [hE] at hel ⊢
  have hsz : (⟨(bk :: T).toArray⟩ : ByteArray).size = n := by rw [← hel]; rfl
  have hne : (⟨(bk :: T).toArray⟩ : ByteArray) ≠ ⟨#[]⟩ := fun h => by
    have := congrArg ByteArray.size h
    rw [hsz, hn] at this
    cases this
  have hnb : n ≤ 505 := by omega
  have hTx : (⟨T.toArray⟩ : ByteArray) = m.x := by rw [hT, ba_tx]
  replace hn := Lib.hid hn
  replace hT := Lib.hid hT
  replace hE := Lib.hid hE
  replace hTx := Lib.hid hTx
  replace hu := Lib.hid hu
  replace hq := Lib.hid hq
  obtain ⟨g, eg⟩ : ∃ g, g = w.heap.size := ⟨_, rfl⟩
  obtain ⟨W0, eW0⟩ : ∃ W, W = w.alloc (.cells zeroC.toArray 49) := ⟨_, rfl⟩
  have s1 : W0.heap.size = g + 1 := by rw [eW0, eg]; simp
  replace hLg := Lib.hid hLg
  replace ebk := Lib.hid ebk
  replace hne := Lib.hid hne
  replace hsz := Lib.hid hsz
  replace hkb := Lib.hid hkb
  replace hel := Lib.hid hel
  replace eW0 := Lib.hid eW0
  replace eg := Lib.hid eg
  go_enter Try.func23, Try.ntmps23
  go_upto_region 0 with fail
  refine wp_region_list ?_
  refine l_value rfl (run_al49 rfl) ?_
  simp only [Act.put, List.setIfInBounds_toArray, List.set_cons_zero, List.set_cons_succ]
  refine l_value rfl (run_asgn (v := .int .i64 0) rfl rfl) ?_
  simp only [Act.put, List.setIfInBounds_toArray, List.set_cons_zero, List.set_cons_succ]
  refine wpList_nil ?_
  rw [← eW0.out, ← eg.out]
  go_upto_region 1 with fail
  refine wp_region_list ?_
  refine l_value rfl (run_move (v := .string ⟨(bk :: T).toArray⟩) rfl rfl) ?_
  simp only [Act.put, List.setIfInBounds_toArray, List.set_cons_zero, List.set_cons_succ]
  refine l_value rfl (run_eqs (s := ⟨(bk :: T).toArray⟩) (t := ⟨#[]⟩) (decide_eq_false hne.out) rfl rfl rfl) ?_
  simp only [Act.put, List.setIfInBounds_toArray, List.set_cons_zero, List.set_cons_succ]
  refine l_value rfl (run_move (v := .bool false) rfl rfl) ?_
  simp only [Act.put, List.setIfInBounds_toArray, List.set_cons_zero, List.set_cons_succ]
  refine BigFrame.wpList_want (by kernel_rfl) (fun _ hK => wp_value (run_move (v := .string ⟨(bk :: T).toArray⟩) rfl rfl) (hK _ _ ?_))
  clear hK
  simp only [Act.put, List.setIfInBounds_toArray, List.set_cons_zero, List.set_cons_succ]
  refine BigFrame.wpList_want (by kernel_rfl) (fun _ hK => wp_value (run_len9 (s := ⟨(bk :: T).toArray⟩) rfl rfl) (hK _ _ ?_))
  clear hK
  simp only [Act.put, List.setIfInBounds_toArray, List.set_cons_zero, List.set_cons_succ]
  refine BigFrame.wpList_want (by kernel_rfl) (fun _ hK => wp_value (run_move (v := .string ⟨(bk :: T).toArray⟩) rfl rfl) (hK _ _ ?_))
  clear hK
  simp only [Act.put, List.setIfInBounds_toArray, List.set_cons_zero, List.set_cons_succ]
  refine BigFrame.wpList_want (by kernel_rfl) (fun _ hK => wp_value (run_idx0 (b := bk) (r := T) rfl rfl) (hK _ _ ?_))
  clear hK
  simp only [Act.put, List.setIfInBounds_toArray, List.set_cons_zero, List.set_cons_succ]
  refine BigFrame.wpList_want (by kernel_rfl) (fun _ hK => wp_value (run_cv53 (b := bk) rfl rfl) (hK _ _ ?_))
  clear hK
  simp only [Act.put, List.setIfInBounds_toArray, List.set_cons_zero, List.set_cons_succ]
  rw [hkb.out, hsz.out]
  refine BigFrame.wpList_want (by kernel_rfl) (fun K hK => wp_callf cf37 rfl _ rfl #[] rfl rfl (hLg.out _) (fun w' e => hK _ _ ?_))
  rw [e]
  clear e w'
  clear hK K
  simp only [Act.put, List.setIfInBounds_toArray, List.set_cons_zero, List.set_cons_succ]
  refine BigFrame.wpList_want (by kernel_rfl) (fun _ hK => wp_value (run_ne3 (b := false) (m := (n : Int)) (n := (n : Int)) (by simp) rfl rfl rfl) (hK _ _ ?_))
  clear hK
  simp only [Act.put, List.setIfInBounds_toArray, List.set_cons_zero, List.set_cons_succ]
  refine l_value rfl (run_pickF (v := .bool false) rfl rfl rfl) ?_
  simp only [Act.put, List.setIfInBounds_toArray, List.set_cons_zero, List.set_cons_succ]
  refine wpList_nil ?_
  go_upto_region 3 with fail
  refine wp_region_list ?_
  refine l_value rfl (run_move (v := .string ⟨(bk :: T).toArray⟩) rfl rfl) ?_
  simp only [Act.put, List.setIfInBounds_toArray, List.set_cons_zero, List.set_cons_succ]
  refine l_value rfl (run_al9 rfl) ?_
  simp only [Act.put, List.setIfInBounds_toArray, List.set_cons_zero, List.set_cons_succ]
  rw [s1]
  have b1 := heap_alloc_new W0 (.cells #[.string e0] 9)
  rw [s1] at b1
  refine wpList_plain rfl fun _ hK => wp_skip (run_st9 (s := ⟨(bk :: T).toArray⟩) rfl rfl rfl (cell_at b1 0) (frz_blk b1 0)) (hK _ _ ?_)
  clear hK
  simp only [Act.put, List.setIfInBounds_toArray, List.set_cons_zero, List.set_cons_succ]
  refine wpList_nil ?_
  have b2 := heap_setCell_same b1 0 (.string ⟨(bk :: T).toArray⟩)
  obtain ⟨W1, eW1⟩ : ∃ W, W = (W0.alloc (.cells #[.string e0] 9)).setCell ⟨g + 1, 0, none⟩ (.string ⟨(bk :: T).toArray⟩) := ⟨_, rfl⟩
  rw [← eW1] at b2 ⊢
  replace eW1 := Lib.hid eW1
  clear b1
  go_upto_region 4 with fail
  refine wp_region_list ?_
  refine l_call (args := #[.pointer (some ⟨g + 1, 0, none⟩), .int .i64 1]) rfl cf38 rfl _ rfl #[] rfl rfl (cut_l W1 (g + 1) (bk :: T) [bk] T 1 rfl rfl (by rw [hel.out]; omega) (cell_at b2 0) (frz_blk b2 0)) (fun w' e => ?_)
  simp only [Act.put, List.setIfInBounds_toArray, List.set_cons_zero, List.set_cons_succ]
  refine l_value rfl (run_idx0 (b := bk) (r := []) rfl rfl) ?_
  simp only [Act.put, List.setIfInBounds_toArray, List.set_cons_zero, List.set_cons_succ]
  refine l_value rfl (run_cv53 (b := bk) rfl rfl) ?_
  simp only [Act.put, List.setIfInBounds_toArray, List.set_cons_zero, List.set_cons_succ]
  rw [hkb.out]
  refine l_value rfl (run_bld49 (k := m.k) rfl rfl) ?_
  simp only [Act.put, List.setIfInBounds_toArray, List.set_cons_zero, List.set_cons_succ]
  refine l_value rfl (run_al49 rfl) ?_
  simp only [Act.put, List.setIfInBounds_toArray, List.set_cons_zero, List.set_cons_succ]
  have z2 : w'.heap.size = g + 2 := by rw [e, eW1.out]; simp [World.setCell, s1]
  have b3 := heap_alloc_new w' (.cells zeroC.toArray 49)
  rw [z2] at b3 ⊢
  refine wpList_plain rfl fun _ hK => wp_st49 (g := g + 2) (C := zeroC) (D := mC m.k 0 0 e0 e0 nilV nilV) rfl rfl rfl rfl rfl b3 (mC_one _ _ _ _ _ ⟨_, _, _, rfl⟩ ⟨_, _, _, rfl⟩) (fun w4 h5 ht => hK _ _ ?_)
  clear hK
  simp only [Act.put, List.setIfInBounds_toArray, List.set_cons_zero, List.set_cons_succ]
  refine wpList_nil ?_
  have hD := dc_start (w3 := w'.alloc (.cells zeroC.toArray 49)) (l := bk :: T) (r := T) eg.out (by rw [e, eW1.out, eW0.out]) h5 ht
  clear h5 ht b3 z2 e b2 eW1 eW0 s1 w' W1 W0 hne hsz hLg
  have k0 := hD.k0
  replace hD := Lib.hid hD
  have hk1 : (m.k == 1) = true := by simp [hk]
  replace hk := Lib.hid hk
  go_upto_region 6 with fail
  clear k0 hk1
  refine wp_region_list ?_
  refine l_value rfl (run_ld9 rfl rfl hD.out.c4) ?_
  simp only [Act.put, List.setIfInBounds_toArray, List.set_cons_zero, List.set_cons_succ]
  rw [hTx.out]
  refine l_value rfl (run_f49 3 rfl rfl (by decide)) ?_
  simp only [Act.put, List.setIfInBounds_toArray, List.set_cons_zero, List.set_cons_succ]
  refine wpList_plain rfl fun _ hK => wp_skip (run_st9 (s := m.x) rfl rfl rfl (cell_at hD.out.h5 3) (hD.out.f5 3)) (hK _ _ ?_)
  clear hK
  simp only [Act.put, List.setIfInBounds_toArray, List.set_cons_zero, List.set_cons_succ]
  refine wpList_nil ?_
  have h6 : (w4.setCell ⟨g + 2, 3, none⟩ (.string m.x)).heap[g + 2]? = some (.cells (mC m.k 0 0 m.x e0 nilV nilV).toArray 49 (0, 0)) := by
    rw [heap_setCell_same hD.out.h5]
    rfl
  have t6 := touch_one w4 (g + 2) 3 (.string m.x)
  obtain ⟨W6, eW6⟩ : ∃ W, W = w4.setCell ⟨g + 2, 3, none⟩ (.string m.x) := ⟨_, rfl⟩
  rw [← eW6] at h6 t6 ⊢
  have h2 := t6.heap hD.out.h2 (by omega)
  have t7 : Touch Nothing w W6 := hD.out.t.trans t6 (fun i hi q => by have := eg.out; omega)
  replace h6 := Lib.hid h6
  replace h2 := Lib.hid h2
  replace t7 := Lib.hid t7
  clear t6 eW6 hD
  go_upto_region 7 with fail
  refine wp_region_list ?_
  refine l_value rfl (run_loadR rfl rfl (range_blk h6.out) Try.underlying49 rfl (by kernel_rfl)) ?_
  simp only [Act.put, List.setIfInBounds_toArray, List.set_cons_zero, List.set_cons_succ]
  refine wpList_plain rfl fun _ hK => wp_st49 (g := g) (C := zeroC) (D := mC m.k 0 0 m.x e0 nilV nilV) rfl rfl rfl rfl rfl h2.out (mC_one _ _ _ _ _ ⟨_, _, _, rfl⟩ ⟨_, _, _, rfl⟩) (fun w21 h21 t21 => hK _ _ ?_)
  clear hK
  simp only [Act.put, List.setIfInBounds_toArray, List.set_cons_zero, List.set_cons_succ]
  refine l_value rfl (run_asgn (v := .int .i64 0) rfl rfl) ?_
  simp only [Act.put, List.setIfInBounds_toArray, List.set_cons_zero, List.set_cons_succ]
  refine wpList_nil ?_
  have hM21 : MlA w21 (.agg (mC m.k 0 0 m.x e0 nilV nilV).toArray) m := by
    refine ⟨none, 0, none, 0, ?_, ?_, ?_⟩
    · unfold mC mlCs nilV
      rw [hu.out, hq.out, hg0, hs0, hi0]
      rfl
    · rw [hs0]
      exact ⟨Nat.zero_le _, fun i hi => by simp at hi⟩
    · rw [hi0]
      exact ⟨Nat.zero_le _, fun i hi => by simp at hi⟩
  have hT21 : Touch Nothing w w21 := t7.out.trans t21 (fun i hi q => by have := eg.out; omega)
  replace hM21 := Lib.hid hM21
  replace hT21 := Lib.hid hT21
  replace h21 := Lib.hid h21
  clear t21
  go_wp2
  exact bodyPost_ret (v := .tuple #[.agg (mC m.k 0 0 m.x e0 nilV nilV).toArray, .int .i64 0]) (ret_cell2 rfl rfl rfl h21.out Try.underlying49 rfl (by kernel_rfl)) rfl ⟨_, rfl, hM21.out, hT21.out⟩

/-- A message's text is read back. -/
theorem Decode_any (w : World) (m : Ml) (hc : chkM m = true) :
    Calls Try.prog 23 #[.string ⟨(encM m).toArray⟩] w fun r w' => ∃ v, r = .returned (.tuple #[v, .int .i64 0]) ∧ MlA w' v m ∧ Touch Nothing w w' := by
  by_cases hk : m.k = 1
  · exact Decode_one w m hc hk
  · exact Decode_more w m hc hk

end Go.Proofs.Ytoegkcjclgmnbaa
