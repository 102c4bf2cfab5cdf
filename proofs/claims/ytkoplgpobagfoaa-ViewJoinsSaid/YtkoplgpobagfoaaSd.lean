/-
  symMerge, walked: the second stretch is one frame. Printed by mksd.py.
-/
import Derived.Test.YtkoplgpobagfoaaSc
namespace Go.Proofs.Ytkoplgpobagfoaa
open Go.RowKit
set_option linter.unusedVariables false
set_option linter.unusedSimpArgs false

theorem run_not {a : Act} {w : World} {op : Oper} {x : Operand} {b : Bool} (ho : op.op = .unOp .not 4 x) (hx : a.eval x = .bool b) : (execOp a.eval op).run Try.prog w = .ok (.value (.bool !b)) w := by
  unfold execOp
  simp only [ho, hx]
  go_simp

set_option maxRecDepth 100000 in
set_option maxHeartbeats 6400000 in
theorem sym_right (F : Nat) (cf : Fr → Fr → Int) (hF : ∀ (args : Array Value) (w : World), (callFunc F args).run Try.prog w = .ok (.enter F args) w)
    (hcf : ∀ (w : World) (x y : Fr), Calls Try.prog F #[frV x, frV y] w fun r w' => r = .returned (.int .i64 (cf x y)) ∧ Touch Nothing w w') (hw : Weak cf)
    (w : World) (g c : Nat) (A u : List Fr) (y : Fr) (D : List Fr) (n a m b : Nat) (ha : a = A.length) (hm : m = a + u.length) (hb : b = m + 1) (hn : n = b + D.length) (hu : 1 < u.length) (su : Srd cf u) (hR : RowF w g (A ++ (u ++ (y :: D)))) (hnl : n ≤ 1048576) :
    Calls Try.prog 55 #[.slice (some ⟨g, 0, none⟩) n c, .int .i64 (a : Int), .int .i64 (m : Int), .int .i64 (b : Int), .func (.func F) #[] #[]] w (Merged cf w g A (u ++ [y]) D) := by
  have hy0 : ∀ w', RowF w' g (A ++ (u ++ (y :: D))) → w'.rangeAt g (m * 4) (frCs y) := fun w' h => by
    have := row_at (i := m) (x := y) h (by rw [← List.append_assoc, List.getElem?_append_right (by rw [List.length_append]; omega), List.length_append, show m - (A.length + u.length) = 0 by omega]; rfl)
    exact this
  have hu0 : ∀ w', RowF w' g (A ++ (u ++ (y :: D))) → ∀ s (hs : s < u.length), w'.rangeAt g ((a + s) * 4) (frCs u[s]) := fun w' h s hs => by
    refine row_at h ?_
    rw [List.getElem?_append_right (by omega), show a + s - A.length = s by omega, List.getElem?_append_left hs, List.getElem?_eq_getElem hs]
  have x1 : (b : Int) - (m : Int) = 1 := by omega
  obtain ⟨lu, hlu⟩ : ∃ lu, lu = u.length := ⟨_, rfl⟩
  have x0 : (m : Int) - (a : Int) = (lu : Int) := by omega
  have x00 : IntKind.i64.wrap (lu : Int) = (lu : Int) := wraps_i64 _ (by omega) (by omega)
  have x01 : ((lu : Int) == 1) = false := by simp; omega
  have x02 : ¬ (lu : Int) = 1 := by omega
  have hbm : b ≤ n := by omega
  have hmb : m < n := by omega
  have ham : a ≤ m := by omega
  replace hF := Lib.hid hF
  replace hcf := Lib.hid hcf
  replace hw := Lib.hid hw
  replace su := Lib.hid su
  replace ha := Lib.hid ha
  replace hm := Lib.hid hm
  replace hb := Lib.hid hb
  replace hn := Lib.hid hn
  replace hR := Lib.hid hR
  replace hlu := Lib.hid hlu
  obtain ⟨X0, hX0⟩ : ∃ X, X = A ++ (u ++ (y :: D)) := ⟨_, rfl⟩
  rw [← hX0] at hR hy0 hu0
  have hXl : X0.length = n := by rw [hX0, hn.out, hb.out, hm.out, ha.out]; simp; omega
  replace hX0 := Lib.hid hX0
  replace hy0 := Lib.hid hy0
  replace hu0 := Lib.hid hu0
  go_enter Try.func55, Try.ntmps55
  go_wp2
  clear x1 x0 x00 x01 x02
  go_loopw [14, 15, 16] (fun iv jv _ wr => ∃ i j : Nat, a ≤ i ∧ i ≤ j ∧ j ≤ m ∧ iv = .int .i64 (i : Int) ∧ jv = .int .i64 (j : Int) ∧ Hid (RowF wr g X0) ∧ Touch (fun k => k = g) w wr ∧ Hid ((∀ x ∈ u.take (i - a), ¬ cf y x < 0) ∧ (∀ x ∈ u.drop (j - a), cf y x < 0))) (fun iv jv _ _ => (intOf jv).toNat - (intOf iv).toNat)
  case atStart => exact ⟨a, m, Nat.le_refl _, ham, Nat.le_refl _, rfl, rfl, hR, Touch.refl _ _, Lib.hid ⟨by simp, by rw [show m - a = u.length by rw [hm.out]; omega, List.drop_length]; simp⟩⟩
  case round =>
    obtain ⟨i, j, hmi, hij, hjb, rfl, rfl, hX, ht, hI⟩ := hrel
    by_cases hlt : i < j
    · have hlti : (i : Int) < (j : Int) := by omega
      obtain ⟨h, hh⟩ : ∃ h, h = (i + j) / 2 := ⟨_, rfl⟩
      obtain ⟨z1, z2, z3, z4, z5⟩ := half_facts i j h n (by omega) (by omega) hnl hh
      have hih : i ≤ h := by omega
      have hhj : h < j := by omega
      have z6 : IntKind.i64.wrap ((h : Int) + 1) = (h : Int) + 1 := wraps_i64 _ (by omega) (by omega)
      replace hh := Lib.hid hh
      have hsu : h - a < u.length := by have := hm.out; omega
      have rx := fun (w' : World) (q : RowF w' g X0) => hu0.out w' q (h - a) hsu
      rw [show a + (h - a) = h by omega] at rx
      obtain ⟨x, hx⟩ : ∃ x, x = u[h - a] := ⟨_, rfl⟩
      rw [← hx] at rx
      have ry := hy0.out
      obtain ⟨bb, hbb⟩ : ∃ bb, bb = decide (cf y x < 0) := ⟨_, rfl⟩
      replace hbb := Lib.hid hbb
      replace hx := Lib.hid hx
      go_upto_region 17 with fail
      go_cut [103] (fun v wx => v = .bool (!bb) ∧ RowF wx g X0 ∧ Touch Nothing wr wx)
      case first =>
        refine wp_region_held_drew (S := fun w' => RowF w' g X0 ∧ Touch Nothing wr w') (by kernel_rfl) ⟨hX.out, (Touch.refl Nothing wr).drew⟩ (fun hS0 => ?_)
        refine d_value (i := 0) rfl (by kernel_rfl) (by kernel_rfl) (by kernel_rfl) rfl (fun _ _ _ h => h) (fun w9 hS => run_move rfl rfl) hS0 ?_
        simp only [Act.put, List.setIfInBounds_toArray, List.set_cons_zero, List.set_cons_succ]
        refine d_value (i := 1) rfl (by kernel_rfl) (by kernel_rfl) (by kernel_rfl) rfl (fun _ _ _ h => h) (fun w9 hS => run_move rfl rfl) hS0 ?_
        simp only [Act.put, List.setIfInBounds_toArray, List.set_cons_zero, List.set_cons_succ]
        refine d_value (i := 2) rfl (by kernel_rfl) (by kernel_rfl) (by kernel_rfl) rfl (fun _ _ _ h => h) (fun w9 hS => run_move rfl rfl) hS0 ?_
        simp only [Act.put, List.setIfInBounds_toArray, List.set_cons_zero, List.set_cons_succ]
        refine d_value (i := 3) rfl (by kernel_rfl) (by kernel_rfl) (by kernel_rfl) rfl (fun _ _ _ h => h) (fun w9 hS => run_ia22 (m) rfl rfl rfl rfl (by omega)) hS0 ?_
        simp only [Act.put, List.setIfInBounds_toArray, List.set_cons_zero, List.set_cons_succ]
        refine d_value (i := 4) rfl (by kernel_rfl) (by kernel_rfl) (by kernel_rfl) rfl (fun _ _ _ h => h) (fun w9 hS => run_ldF (f := y) rfl rfl (ry w9 hS.1)) hS0 ?_
        simp only [Act.put, List.setIfInBounds_toArray, List.set_cons_zero, List.set_cons_succ]
        refine d_value (i := 5) rfl (by kernel_rfl) (by kernel_rfl) (by kernel_rfl) rfl (fun _ _ _ h => h) (fun w9 hS => run_move rfl rfl) hS0 ?_
        simp only [Act.put, List.setIfInBounds_toArray, List.set_cons_zero, List.set_cons_succ]
        refine d_value (i := 6) rfl (by kernel_rfl) (by kernel_rfl) (by kernel_rfl) rfl (fun _ _ _ h => h) (fun w9 hS => run_move rfl rfl) hS0 ?_
        simp only [Act.put, List.setIfInBounds_toArray, List.set_cons_zero, List.set_cons_succ]
        refine d_value (i := 7) rfl (by kernel_rfl) (by kernel_rfl) (by kernel_rfl) rfl (fun _ _ _ h => h) (fun w9 hS => run_ia22 (h) rfl rfl rfl rfl (by omega)) hS0 ?_
        simp only [Act.put, List.setIfInBounds_toArray, List.set_cons_zero, List.set_cons_succ]
        refine d_value (i := 8) rfl (by kernel_rfl) (by kernel_rfl) (by kernel_rfl) rfl (fun _ _ _ h => h) (fun w9 hS => run_ldF (f := x) rfl rfl (rx w9 hS.1)) hS0 ?_
        simp only [Act.put, List.setIfInBounds_toArray, List.set_cons_zero, List.set_cons_succ]
        refine d_call (args := #[frV y, frV x]) (i := 9) (by kernel_rfl) rfl rfl hF.out rfl _ rfl #[] rfl rfl (hcf.out _ y x) (fun _ t => ⟨hS0.1.keep t (fun q => q), hS0.2.trans' t⟩) (fun wn tn => ?_)
        simp only [Act.put, List.setIfInBounds_toArray, List.set_cons_zero, List.set_cons_succ]
        replace hS0 : RowF wn g X0 ∧ Touch Nothing wr wn := ⟨hS0.1.keep tn (fun q => q), hS0.2.trans' tn⟩
        refine d_value (i := 10) rfl (by kernel_rfl) (by kernel_rfl) (by kernel_rfl) rfl (fun _ _ _ h => h) (fun w9 hS => run_lss bb rfl rfl rfl hbb.out.symm) hS0 ?_
        simp only [Act.put, List.setIfInBounds_toArray, List.set_cons_zero, List.set_cons_succ]
        refine d_value (i := 11) rfl (by kernel_rfl) (by kernel_rfl) (by kernel_rfl) rfl (fun _ _ _ h => h) (fun w9 hS => run_not rfl rfl) hS0 ?_
        simp only [Act.put, List.setIfInBounds_toArray, List.set_cons_zero, List.set_cons_succ]
        refine wpAnyH_done (by kernel_rfl) ?_ _
        have hh2 := Lib.hid hS0
        clear hS0 tn ht ry rx hX
        go_wp2_with fail
        go_meet
        exact ⟨rfl, hh2.out.1, hh2.out.2⟩
      case rest =>
      obtain ⟨rfl, hX4, t4⟩ := hcut
      obtain ⟨w4, ew4⟩ : ∃ v : World, v = wc := ⟨_, rfl⟩
      rw [← ew4] at hX4 t4 ⊢
      clear ew4 wc
      have ht5 : Touch (fun k => k = g) w w4 := ht.trans' (t4.mono fun _ _ q => q.elim)
      replace hX4 := Lib.hid hX4
      cases bb
      · have hI2 : Hid ((∀ x ∈ u.take (h + 1 - a), ¬ cf y x < 0) ∧ (∀ x ∈ u.drop (j - a), cf y x < 0)) := Lib.hid ⟨by rw [show h + 1 - a = (h - a) + 1 by omega]; exact take_low2 hw.out su.out hsu (by rw [← hx.out]; exact of_decide_eq_false hbb.out.symm), hI.out.2⟩
        clear hI hX t4 ht rx ry hx hbb
        go_wp2
        exact ⟨⟨h + 1, j, by omega, by omega, hjb, by simp, rfl, hX4, ht5, hI2⟩, by simp [intOf]; omega⟩
      · have hI2 : Hid ((∀ x ∈ u.take (i - a), ¬ cf y x < 0) ∧ (∀ x ∈ u.drop (h - a), cf y x < 0)) := Lib.hid ⟨hI.out.1, drop_high2 hw.out su.out hsu (by rw [← hx.out]; exact of_decide_eq_true hbb.out.symm)⟩
        clear hI hX t4 ht rx ry hx hbb
        go_wp2
        exact ⟨⟨i, h, hmi, hih, by omega, rfl, rfl, hX4, ht5, hI2⟩, by simp [intOf]; omega⟩
    · obtain rfl : i = j := by omega
      obtain ⟨hI1, hI2⟩ := into_left hw.out su.out hI.out.1 hI.out.2
      obtain ⟨p, hp⟩ : ∃ p, p = i - a := ⟨_, rfl⟩
      rw [← hp] at hI1 hI2
      have hst0 : Hid (RowF wr g (A ++ (u.take (m - a) ++ y :: (u.drop (m - a) ++ D)))) := Lib.hid (by rw [show m - a = u.length by have := hm.out; omega, List.take_length, List.drop_length, List.nil_append]; rw [hX0.out] at hX; exact hX.out)
      replace hI1 := Lib.hid hI1
      replace hI2 := Lib.hid hI2
      replace hp := Lib.hid hp
      clear hI hX
      go_wp2
      go_loopw [17] (fun kv wr => ∃ k : Nat, i ≤ k ∧ k ≤ m ∧ kv = .int .i64 (k : Int) ∧ Hid (RowF wr g (A ++ (u.take (k - a) ++ y :: (u.drop (k - a) ++ D)))) ∧ Touch (fun k => k = g) w wr) (fun kv _ => (intOf kv).toNat)
      case atStart => exact ⟨m, hjb, Nat.le_refl _, rfl, hst0, ht⟩
      case round =>
        clear hst0 ht
        obtain ⟨k, hik, hkm, rfl, hX, ht⟩ := hrel
        by_cases hlk : i < k
        · have hlki : (i : Int) < (k : Int) := by omega
          obtain ⟨q, hq⟩ : ∃ q, k = q + 1 := ⟨k - 1, by omega⟩
          have xq : (k : Int) - 1 = (q : Int) := by omega
          have xq2 : IntKind.i64.wrap (q : Int) = (q : Int) := wraps_i64 _ (by omega) (by omega)
          have hqi : i ≤ q := by omega
          have hqm : q < m := by omega
          obtain ⟨t, htq⟩ : ∃ t, q = a + t := ⟨q - a, by omega⟩
          have htu : t < u.length := by have := hm.out; omega
          obtain ⟨x, hx⟩ : ∃ x, x = u[t] := ⟨_, rfl⟩
          have hf : A ++ (u.take (k - a) ++ y :: (u.drop (k - a) ++ D)) = (A ++ u.take t) ++ x :: ([] ++ y :: (u.drop (t + 1) ++ D)) := by
            rw [show k - a = t + 1 by omega, List.take_succ_eq_append_getElem htu, ← hx]
            simp only [List.append_assoc, List.cons_append, List.nil_append]
          have hg : (A ++ u.take t) ++ y :: ([] ++ x :: (u.drop (t + 1) ++ D)) = A ++ (u.take (q - a) ++ y :: (u.drop (q - a) ++ D)) := by
            rw [show q - a = t by omega, List.drop_eq_getElem_cons htu, ← hx]
            simp only [List.append_assoc, List.cons_append, List.nil_append]
          have hl1 : (A ++ u.take t).length = q := by rw [List.length_append, List.length_take]; have := ha.out; omega
          have e0 := at_left (A ++ u.take t) x ([] ++ y :: (u.drop (t + 1) ++ D))
          have e1 := at_right (A ++ u.take t) x [] y (u.drop (t + 1) ++ D)
          have e2 := exch (A ++ u.take t) x [] y (u.drop (t + 1) ++ D)
          rw [List.length_nil, Nat.add_zero, hl1, ← hq] at e1 e2
          rw [hl1] at e0
          rw [← hf] at e0 e1 e2
          rw [hg] at e2
          have hXl2 : (A ++ (u.take (k - a) ++ y :: (u.drop (k - a) ++ D))).length = n := by
            rw [hf, hn.out, hb.out, hm.out, ha.out]
            simp
            have := ha.out
            omega
          obtain ⟨X, hXe⟩ : ∃ X, X = A ++ (u.take (k - a) ++ y :: (u.drop (k - a) ++ D)) := ⟨_, rfl⟩
          rw [← hXe] at hX e0 e1 e2 hXl2
          have hpa : q < X.length := by omega
          have hpb : k < X.length := by omega
          have rx := fun (w' : World) (h : RowF w' g X) => row_at h e0
          have ry := fun (w' : World) (h : RowF w' g X) => row_at h e1
          replace e2 := Lib.hid e2
          replace htq := Lib.hid htq
          replace hq := Lib.hid hq
          clear hf hg hl1 e0 e1 hXe hx
          go_upto_region 23 with fail
          refine wp_region_stage (S := fun w' => RowF w' g X) (by kernel_rfl) ?_
          have hS0 : RowF wr.drew g X := hX.out
          refine g_pure (i := 0) rfl (by kernel_rfl) (by kernel_rfl) (by kernel_rfl) (by kernel_rfl) rfl (fun _ _ _ h => h) (fun w9 => run_move rfl rfl) (fun _ => hS0) ?_
          simp only [Act.put, List.setIfInBounds_toArray, List.set_cons_zero, List.set_cons_succ]
          refine g_pure (i := 1) rfl (by kernel_rfl) (by kernel_rfl) (by kernel_rfl) (by kernel_rfl) rfl (fun _ _ _ h => h) (fun w9 => run_move rfl rfl) (fun _ => hS0) ?_
          simp only [Act.put, List.setIfInBounds_toArray, List.set_cons_zero, List.set_cons_succ]
          refine g_pure (i := 2) rfl (by kernel_rfl) (by kernel_rfl) (by kernel_rfl) (by kernel_rfl) rfl (fun _ _ _ h => h) (fun w9 => run_move rfl rfl) (fun _ => hS0) ?_
          simp only [Act.put, List.setIfInBounds_toArray, List.set_cons_zero, List.set_cons_succ]
          refine g_pure (i := 3) rfl (by kernel_rfl) (by kernel_rfl) (by kernel_rfl) (by kernel_rfl) rfl (fun _ _ _ h => h) (fun w9 => run_move rfl rfl) (fun _ => hS0) ?_
          simp only [Act.put, List.setIfInBounds_toArray, List.set_cons_zero, List.set_cons_succ]
          refine g_pure (i := 4) rfl (by kernel_rfl) (by kernel_rfl) (by kernel_rfl) (by kernel_rfl) rfl (fun _ _ _ h => h) (fun w9 => run_sub ((q : Nat) : Int) rfl rfl rfl (by omega) (by omega) (by omega)) (fun _ => hS0) ?_
          simp only [Act.put, List.setIfInBounds_toArray, List.set_cons_zero, List.set_cons_succ]
          refine g_pure (i := 5) rfl (by kernel_rfl) (by kernel_rfl) (by kernel_rfl) (by kernel_rfl) rfl (fun _ _ _ h => h) (fun w9 => run_move rfl rfl) (fun _ => hS0) ?_
          simp only [Act.put, List.setIfInBounds_toArray, List.set_cons_zero, List.set_cons_succ]
          refine g_pure (i := 6) rfl (by kernel_rfl) (by kernel_rfl) (by kernel_rfl) (by kernel_rfl) rfl (fun _ _ _ h => h) (fun w9 => run_move rfl rfl) (fun _ => hS0) ?_
          simp only [Act.put, List.setIfInBounds_toArray, List.set_cons_zero, List.set_cons_succ]
          refine g_pure (i := 7) rfl (by kernel_rfl) (by kernel_rfl) (by kernel_rfl) (by kernel_rfl) rfl (fun _ _ _ h => h) (fun w9 => run_sub ((q : Nat) : Int) rfl rfl rfl (by omega) (by omega) (by omega)) (fun _ => hS0) ?_
          simp only [Act.put, List.setIfInBounds_toArray, List.set_cons_zero, List.set_cons_succ]
          refine g_pure (i := 8) rfl (by kernel_rfl) (by kernel_rfl) (by kernel_rfl) (by kernel_rfl) rfl (fun _ _ _ h => h) (fun w9 => run_ia22 (q) rfl rfl rfl rfl (by omega)) (fun _ => hS0) ?_
          simp only [Act.put, List.setIfInBounds_toArray, List.set_cons_zero, List.set_cons_succ]
          refine g_read (i := 9) rfl (by kernel_rfl) (by kernel_rfl) (by kernel_rfl) (by kernel_rfl) (by kernel_rfl) rfl (fun _ _ _ h => h) (fun w9 hS => run_ldF (f := x) rfl rfl (rx w9 hS)) hS0 ?_
          simp only [Act.put, List.setIfInBounds_toArray, List.set_cons_zero, List.set_cons_succ]
          refine g_pure (i := 10) rfl (by kernel_rfl) (by kernel_rfl) (by kernel_rfl) (by kernel_rfl) rfl (fun _ _ _ h => h) (fun w9 => run_move rfl rfl) (fun _ => hS0) ?_
          simp only [Act.put, List.setIfInBounds_toArray, List.set_cons_zero, List.set_cons_succ]
          refine g_pure (i := 11) rfl (by kernel_rfl) (by kernel_rfl) (by kernel_rfl) (by kernel_rfl) rfl (fun _ _ _ h => h) (fun w9 => run_move rfl rfl) (fun _ => hS0) ?_
          simp only [Act.put, List.setIfInBounds_toArray, List.set_cons_zero, List.set_cons_succ]
          refine g_pure (i := 12) rfl (by kernel_rfl) (by kernel_rfl) (by kernel_rfl) (by kernel_rfl) rfl (fun _ _ _ h => h) (fun w9 => run_ia22 (k) rfl rfl rfl rfl (by omega)) (fun _ => hS0) ?_
          simp only [Act.put, List.setIfInBounds_toArray, List.set_cons_zero, List.set_cons_succ]
          refine g_read (i := 13) rfl (by kernel_rfl) (by kernel_rfl) (by kernel_rfl) (by kernel_rfl) (by kernel_rfl) rfl (fun _ _ _ h => h) (fun w9 hS => run_ldF (f := y) rfl rfl (ry w9 hS)) hS0 ?_
          simp only [Act.put, List.setIfInBounds_toArray, List.set_cons_zero, List.set_cons_succ]
          refine g_pure (i := 14) rfl (by kernel_rfl) (by kernel_rfl) (by kernel_rfl) (by kernel_rfl) rfl (fun _ _ _ h => h) (fun w9 => run_ia22 (k) rfl rfl rfl rfl (by omega)) (fun _ => hS0) ?_
          simp only [Act.put, List.setIfInBounds_toArray, List.set_cons_zero, List.set_cons_succ]
          refine g_store (i := 15) (by kernel_rfl) (by kernel_rfl) rfl rfl (fun K hK => wp_stF (f := x) (L := X) (i := k) rfl rfl rfl hS0 hpb (fun wa haa ta => hK _ _ ?_))
          clear hK K
          simp only [Act.put, List.setIfInBounds_toArray, List.set_cons_zero, List.set_cons_succ]
          refine g_late (i := 16) rfl (by kernel_rfl) (by kernel_rfl) (by kernel_rfl) (by kernel_rfl) rfl (fun _ _ _ h => h) (fun w9 => run_ia22 (q) rfl rfl rfl rfl (by omega)) (by kernel_rfl) ?_
          simp only [Act.put, List.setIfInBounds_toArray, List.set_cons_zero, List.set_cons_succ]
          refine g_store (i := 17) (by kernel_rfl) (by kernel_rfl) rfl rfl (fun K hK => wp_stF (f := y) (L := X.set k x) (i := q) rfl rfl rfl haa (by rw [List.length_set]; exact hpa) (fun wb hb2 tb => hK _ _ ?_))
          clear hK K
          simp only [Act.put, List.setIfInBounds_toArray, List.set_cons_zero, List.set_cons_succ]
          refine AnyG.done (by kernel_rfl) ?_ _
          rw [e2.out] at hb2
          have t9 := (ht.drew.trans' ta).trans' tb
          replace hb2 := Lib.hid hb2
          clear hS0 haa ta tb ht hX rx ry
          go_wp2
          exact ⟨⟨q, hqi, by omega, by simp, hb2, t9⟩, by simp [intOf]; omega⟩
        · obtain rfl : k = i := by omega
          have hfin : RowF wr g (A ++ ((u.take p ++ y :: u.drop p) ++ D)) := by
            have := hX.out
            rw [← hp.out] at this
            simpa using this
          replace hfin := Lib.hid hfin
          clear hX
          go_wp2
          go_end0
          exact ⟨rfl, ⟨_, hfin.out, hI1.out, hI2.out⟩, ht⟩

end Go.Proofs.Ytkoplgpobagfoaa
