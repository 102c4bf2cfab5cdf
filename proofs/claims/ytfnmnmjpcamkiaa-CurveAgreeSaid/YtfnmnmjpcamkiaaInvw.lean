/-
  Layer 1: Inverse, walked. Printed by mkinvw.py.
-/
import Derived.Test.YtfnmnmjpcamkiaaBox
namespace Go.Proofs.Ytfnmnmjpcamkiaa
open Go.RowKit
set_option linter.unusedVariables false
set_option linter.unusedSimpArgs false

theorem squared_to (w : World) (e f : El) (n : Nat) (m : Int) (hf : f = sqE e n) (fe : e.Fine) (hn : n ≤ 1000000) (hm : m = (n : Int)) :
    Calls Try.prog 75 #[.agg #[.int .u64 e.a0, .int .u64 e.a1, .int .u64 e.a2, .int .u64 e.a3, .int .u64 e.a4], .int .i64 m] w fun r w' => r = .returned (.agg #[.int .u64 f.a0, .int .u64 f.a1, .int .u64 f.a2, .int .u64 f.a3, .int .u64 f.a4]) ∧ Touch Nothing w w' := by
  subst hf hm
  exact squared_any w e fe n hn

theorem times_to (w : World) (e f g : El) (hg : g = timE e f) (fe : e.Fine) (ff : f.Fine) :
    Calls Try.prog 64 #[.agg #[.int .u64 e.a0, .int .u64 e.a1, .int .u64 e.a2, .int .u64 e.a3, .int .u64 e.a4], .agg #[.int .u64 f.a0, .int .u64 f.a1, .int .u64 f.a2, .int .u64 f.a3, .int .u64 f.a4]] w fun r w' => r = .returned (.agg #[.int .u64 g.a0, .int .u64 g.a1, .int .u64 g.a2, .int .u64 g.a3, .int .u64 g.a4]) ∧ Touch Nothing w w' := by
  subst hg
  exact times_any w e f fe ff

set_option maxRecDepth 100000 in
set_option maxHeartbeats 12800000 in
theorem inverse_any (w : World) (g : Nat) (e : El) (h : w.heap[g]? = some (elC e)) (fe : e.Fine) :
    Calls Try.prog 68 #[.pointer (some ⟨g, 0, none⟩)] w fun r w' => r = .returned (elV (invE e)) ∧ Touch Nothing w w' := by
  obtain ⟨two, htwo⟩ : ∃ t, t = sqE e 1 := ⟨_, rfl⟩
  have ftwo : two.Fine := by rw [htwo]; exact sqE_fine fe _
  obtain ⟨q0, hq0⟩ : ∃ t, t = sqE two 2 := ⟨_, rfl⟩
  have fq0 : q0.Fine := by rw [hq0]; exact sqE_fine ftwo _
  obtain ⟨nine, hnine⟩ : ∃ t, t = timE e q0 := ⟨_, rfl⟩
  have fnine : nine.Fine := by rw [hnine]; exact timE_fine fe fq0
  obtain ⟨elev, helev⟩ : ∃ t, t = timE nine two := ⟨_, rfl⟩
  have felev : elev.Fine := by rw [helev]; exact timE_fine fnine ftwo
  obtain ⟨q1, hq1⟩ : ∃ t, t = sqE elev 1 := ⟨_, rfl⟩
  have fq1 : q1.Fine := by rw [hq1]; exact sqE_fine felev _
  obtain ⟨vA, hvA⟩ : ∃ t, t = timE nine q1 := ⟨_, rfl⟩
  have fvA : vA.Fine := by rw [hvA]; exact timE_fine fnine fq1
  obtain ⟨q2, hq2⟩ : ∃ t, t = sqE vA 5 := ⟨_, rfl⟩
  have fq2 : q2.Fine := by rw [hq2]; exact sqE_fine fvA _
  obtain ⟨vB, hvB⟩ : ∃ t, t = timE vA q2 := ⟨_, rfl⟩
  have fvB : vB.Fine := by rw [hvB]; exact timE_fine fvA fq2
  obtain ⟨q3, hq3⟩ : ∃ t, t = sqE vB 10 := ⟨_, rfl⟩
  have fq3 : q3.Fine := by rw [hq3]; exact sqE_fine fvB _
  obtain ⟨vC, hvC⟩ : ∃ t, t = timE vB q3 := ⟨_, rfl⟩
  have fvC : vC.Fine := by rw [hvC]; exact timE_fine fvB fq3
  obtain ⟨q4, hq4⟩ : ∃ t, t = sqE vC 20 := ⟨_, rfl⟩
  have fq4 : q4.Fine := by rw [hq4]; exact sqE_fine fvC _
  obtain ⟨vD, hvD⟩ : ∃ t, t = timE vC q4 := ⟨_, rfl⟩
  have fvD : vD.Fine := by rw [hvD]; exact timE_fine fvC fq4
  obtain ⟨q5, hq5⟩ : ∃ t, t = sqE vD 10 := ⟨_, rfl⟩
  have fq5 : q5.Fine := by rw [hq5]; exact sqE_fine fvD _
  obtain ⟨vF, hvF⟩ : ∃ t, t = timE vB q5 := ⟨_, rfl⟩
  have fvF : vF.Fine := by rw [hvF]; exact timE_fine fvB fq5
  obtain ⟨q6, hq6⟩ : ∃ t, t = sqE vF 50 := ⟨_, rfl⟩
  have fq6 : q6.Fine := by rw [hq6]; exact sqE_fine fvF _
  obtain ⟨vG, hvG⟩ : ∃ t, t = timE vF q6 := ⟨_, rfl⟩
  have fvG : vG.Fine := by rw [hvG]; exact timE_fine fvF fq6
  obtain ⟨q7, hq7⟩ : ∃ t, t = sqE vG 100 := ⟨_, rfl⟩
  have fq7 : q7.Fine := by rw [hq7]; exact sqE_fine fvG _
  obtain ⟨vH, hvH⟩ : ∃ t, t = timE vG q7 := ⟨_, rfl⟩
  have fvH : vH.Fine := by rw [hvH]; exact timE_fine fvG fq7
  obtain ⟨q8, hq8⟩ : ∃ t, t = sqE vH 50 := ⟨_, rfl⟩
  have fq8 : q8.Fine := by rw [hq8]; exact sqE_fine fvH _
  obtain ⟨q9, hq9⟩ : ∃ t, t = timE vF q8 := ⟨_, rfl⟩
  have fq9 : q9.Fine := by rw [hq9]; exact timE_fine fvF fq8
  obtain ⟨qA, hqA⟩ : ∃ t, t = sqE q9 5 := ⟨_, rfl⟩
  have fqA : qA.Fine := by rw [hqA]; exact sqE_fine fq9 _
  obtain ⟨inv, hinv⟩ : ∃ t, t = timE elev qA := ⟨_, rfl⟩
  have finv : inv.Fine := by rw [hinv]; exact timE_fine felev fqA
  have hinv2 : invE e = inv := by
    unfold invE cH cG cF cD cC cB cA elevE nineE twoE
    simp only [← htwo, ← hq0, ← hnine, ← helev, ← hq1, ← hvA, ← hq2, ← hvB, ← hq3, ← hvC, ← hq4, ← hvD, ← hq5, ← hvF, ← hq6, ← hvG, ← hq7, ← hvH, ← hq8, ← hq9, ← hqA, ← hinv]
  rw [hinv2]
  clear hinv2
  obtain ⟨c0, c1, c2, c3, c4⟩ := el_cells h
  have hgw := lt_of_heap h
  replace h := Lib.hid h
  replace fe := Lib.hid fe
  replace ftwo := Lib.hid ftwo
  replace htwo := Lib.hid htwo
  replace fq0 := Lib.hid fq0
  replace hq0 := Lib.hid hq0
  replace fnine := Lib.hid fnine
  replace hnine := Lib.hid hnine
  replace felev := Lib.hid felev
  replace helev := Lib.hid helev
  replace fq1 := Lib.hid fq1
  replace hq1 := Lib.hid hq1
  replace fvA := Lib.hid fvA
  replace hvA := Lib.hid hvA
  replace fq2 := Lib.hid fq2
  replace hq2 := Lib.hid hq2
  replace fvB := Lib.hid fvB
  replace hvB := Lib.hid hvB
  replace fq3 := Lib.hid fq3
  replace hq3 := Lib.hid hq3
  replace fvC := Lib.hid fvC
  replace hvC := Lib.hid hvC
  replace fq4 := Lib.hid fq4
  replace hq4 := Lib.hid hq4
  replace fvD := Lib.hid fvD
  replace hvD := Lib.hid hvD
  replace fq5 := Lib.hid fq5
  replace hq5 := Lib.hid hq5
  replace fvF := Lib.hid fvF
  replace hvF := Lib.hid hvF
  replace fq6 := Lib.hid fq6
  replace hq6 := Lib.hid hq6
  replace fvG := Lib.hid fvG
  replace hvG := Lib.hid hvG
  replace fq7 := Lib.hid fq7
  replace hq7 := Lib.hid hq7
  replace fvH := Lib.hid fvH
  replace hvH := Lib.hid hvH
  replace fq8 := Lib.hid fq8
  replace hq8 := Lib.hid hq8
  replace fq9 := Lib.hid fq9
  replace hq9 := Lib.hid hq9
  replace fqA := Lib.hid fqA
  replace hqA := Lib.hid hqA
  replace finv := Lib.hid finv
  replace hinv := Lib.hid hinv
  go_enter Try.func68, Try.ntmps68
  go_upto_region 2 with (go_at_call 75; refine (squared_to _ e two 1 _ htwo.out fe.out (by omega) rfl).mono ?_; rintro r w2 ⟨rfl, ht2⟩)
  clear c0 c1 c2 c3 c4
  obtain ⟨W, hW⟩ : ∃ W, W = w2.alloc (elC two) := ⟨_, rfl⟩
  have htW : Touch Nothing w W := by rw [hW]; exact (((Touch.refl Nothing w).alloc (elC zE)).trans ht2 fun _ _ q => q).alloc _
  have hBe : W.heap[g]? = some (elC e) := htW.heap h.out (fun q => q)
  have hBr : W.heap[w.heap.size]? = some (elC zE) := by rw [hW]; exact ((Touch.refl Nothing w2).alloc _).heap (ht2.heap (heap_alloc_new w _) (fun q => q)) (fun q => q)
  have hBtwo : W.heap[w2.heap.size]? = some (elC two) := by rw [hW]; exact heap_alloc_new _ _
  obtain ⟨ktwo, hktwo⟩ : ∃ k, k = w2.heap.size := ⟨_, rfl⟩
  rw [← hktwo] at hBtwo ⊢
  clear ht2
  have hWW : w2.alloc (.cells #[.int .u64 two.a0, .int .u64 two.a1, .int .u64 two.a2, .int .u64 two.a3, .int .u64 two.a4] 49) = W := hW.symm
  rw [hWW]
  clear hWW hW hktwo
  replace hBe := Lib.hid hBe
  replace hBr := Lib.hid hBr
  replace hBtwo := Lib.hid hBtwo
  replace htW := Lib.hid htW
  obtain ⟨d0, d1, d2, d3, d4⟩ := el_cells hBe.out
  have hga := lt_of_heap hBe.out
  obtain ⟨e0, e1, e2, e3, e4⟩ := el_cells hBtwo.out
  have hgb := lt_of_heap hBtwo.out
  have hzA : (W.alloc (.cells #[.int .u64 0, .int .u64 0, .int .u64 0, .int .u64 0, .int .u64 0] 49)).drew.heap[W.heap.size]? = some (elC zE) := heap_alloc_new W (elC zE)
  replace hzA := Lib.hid hzA
  go_cut [4] (fun v wx => ∃ k : Nat, v = .pointer (some ⟨k, 0, none⟩) ∧ W.heap.size ≤ k ∧ wx.heap[k]? = some (elC nine) ∧ Touch Nothing W wx)
  case first =>
    go_region_held3 (fun w' => (w'.cell? ⟨g, 0, none⟩ = some (.int .u64 e.a0) ∧ w'.cell? ⟨g, 1, none⟩ = some (.int .u64 e.a1) ∧ w'.cell? ⟨g, 2, none⟩ = some (.int .u64 e.a2) ∧ w'.cell? ⟨g, 3, none⟩ = some (.int .u64 e.a3) ∧ w'.cell? ⟨g, 4, none⟩ = some (.int .u64 e.a4)) ∧ (w'.cell? ⟨ktwo, 0, none⟩ = some (.int .u64 two.a0) ∧ w'.cell? ⟨ktwo, 1, none⟩ = some (.int .u64 two.a1) ∧ w'.cell? ⟨ktwo, 2, none⟩ = some (.int .u64 two.a2) ∧ w'.cell? ⟨ktwo, 3, none⟩ = some (.int .u64 two.a3) ∧ w'.cell? ⟨ktwo, 4, none⟩ = some (.int .u64 two.a4)))
      (first | ((with_reducible apply two_keep hta); assumption) | ((with_reducible apply two_keep htb); assumption) | (with_reducible apply two_drew; with_reducible apply two_alloc; exact ⟨⟨d0, d1, d2, d3, d4⟩, ⟨e0, e1, e2, e3, e4⟩⟩) | ((with_reducible apply two_drew); exact ⟨⟨d0, d1, d2, d3, d4⟩, ⟨e0, e1, e2, e3, e4⟩⟩) | ((with_reducible apply two_alloc); assumption) | ((with_reducible apply two_again); rotate_left 2; assumption; all_goals omega) | ((with_reducible apply two_sets); rotate_left 2; assumption; all_goals omega) | fail)
      (first | (go_at_call 75; refine (squared_to _ two q0 2 _ hq0.out ftwo.out (by omega) rfl).mono ?_; rintro r wa ⟨rfl, hta⟩; have hsa := hta.size; (try simp at hsa); (first | (with_reducible have hz := touch_heap0 hta hzA.out) | skip)) | (go_at_call 64; refine (times_to _ e q0 nine hnine.out fe.out fq0.out).mono ?_; rintro r wb ⟨rfl, htb⟩; have hsb := htb.size; (try simp at hsb); (first | ((first | (with_reducible have hy := touch_heap0 htb (heap_alloc_new _ _)) | (with_reducible have hy := touch_heap0 htb hz)); obtain ⟨z0, z1, z2, z3, z4⟩ := el_cells (e := zE) hy; have f0 := frz_blk hy 0; have f1 := frz_blk hy 1; have f2 := frz_blk hy 2; have f3 := frz_blk hy 3; have f4 := frz_blk hy 4; replace hy := Lib.hid hy) | skip)))
    · (go_wp2_with fail; go_meet; exact fin_alloc (((Touch.refl Nothing _).drew.trans' hta).trans' htb))
    · (go_wp2_with fail; go_meet; exact fin_sets (z := zE) ((((Touch.refl Nothing _).drew.trans' hta).alloc _).trans' htb) hy.out (by omega))
    · (go_wp2_with fail; go_meet; exact fin_sets (z := zE) ((((Touch.refl Nothing _).alloc _).drew.trans' hta).trans' htb) hy.out (by omega))
  case rest =>
    obtain ⟨knine, rfl, hnnine, hBnine, htc⟩ := hcut
    replace hnnine : w.heap.size < knine := Nat.lt_of_lt_of_le (lt_of_heap hBr.out) hnnine
    obtain ⟨Wnine, hWnine⟩ : ∃ W, W = wc := ⟨_, rfl⟩
    rw [← hWnine] at hBnine htc ⊢
    clear hWnine wc
    replace htW := Lib.hid (htW.out.trans' htc)
    replace hBe := Lib.hid (touch_heap0 htc hBe.out)
    replace hBr := Lib.hid (touch_heap0 htc hBr.out)
    replace hBtwo := Lib.hid (touch_heap0 htc hBtwo.out)
    replace hBnine := Lib.hid hBnine
    clear htc
    try clear d0 d1 d2 d3 d4
    try clear e0 e1 e2 e3 e4
    try clear hga
    try clear hgb
    try clear hzA
    obtain ⟨d0, d1, d2, d3, d4⟩ := el_cells hBnine.out
    obtain ⟨e0, e1, e2, e3, e4⟩ := el_cells hBtwo.out
    go_upto_region 3 with fail
    go_cut [5] (fun v wx => ∃ k : Nat, v = .pointer (some ⟨k, 0, none⟩) ∧ Wnine.heap.size ≤ k ∧ wx.heap[k]? = some (elC elev) ∧ Touch Nothing Wnine wx)
    case first =>
      go_wp2_with (go_at_call 64; refine (times_to _ nine two elev helev.out fnine.out ftwo.out).mono ?_; rintro r wb ⟨rfl, htb⟩)
      go_meet
      exact fin_alloc htb
    case rest =>
      obtain ⟨kelev, rfl, hnelev, hBelev, htc⟩ := hcut
      replace hnelev : w.heap.size < kelev := Nat.lt_of_lt_of_le (lt_of_heap hBr.out) hnelev
      obtain ⟨Welev, hWelev⟩ : ∃ W, W = wc := ⟨_, rfl⟩
      rw [← hWelev] at hBelev htc ⊢
      clear hWelev wc
      replace htW := Lib.hid (htW.out.trans' htc)
      replace hBe := Lib.hid (touch_heap0 htc hBe.out)
      replace hBr := Lib.hid (touch_heap0 htc hBr.out)
      replace hBtwo := Lib.hid (touch_heap0 htc hBtwo.out)
      replace hBnine := Lib.hid (touch_heap0 htc hBnine.out)
      replace hBelev := Lib.hid hBelev
      clear htc
      try clear d0 d1 d2 d3 d4
      try clear e0 e1 e2 e3 e4
      try clear hga
      try clear hgb
      try clear hzA
      go_upto_region 4 with fail
      obtain ⟨d0, d1, d2, d3, d4⟩ := el_cells hBnine.out
      have hga := lt_of_heap hBnine.out
      obtain ⟨e0, e1, e2, e3, e4⟩ := el_cells hBelev.out
      have hgb := lt_of_heap hBelev.out
      have hzA : (Welev.alloc (.cells #[.int .u64 0, .int .u64 0, .int .u64 0, .int .u64 0, .int .u64 0] 49)).drew.heap[Welev.heap.size]? = some (elC zE) := heap_alloc_new Welev (elC zE)
      replace hzA := Lib.hid hzA
      go_cut [6] (fun v wx => ∃ k : Nat, v = .pointer (some ⟨k, 0, none⟩) ∧ Welev.heap.size ≤ k ∧ wx.heap[k]? = some (elC vA) ∧ Touch Nothing Welev wx)
      case first =>
        go_region_held3 (fun w' => (w'.cell? ⟨knine, 0, none⟩ = some (.int .u64 nine.a0) ∧ w'.cell? ⟨knine, 1, none⟩ = some (.int .u64 nine.a1) ∧ w'.cell? ⟨knine, 2, none⟩ = some (.int .u64 nine.a2) ∧ w'.cell? ⟨knine, 3, none⟩ = some (.int .u64 nine.a3) ∧ w'.cell? ⟨knine, 4, none⟩ = some (.int .u64 nine.a4)) ∧ (w'.cell? ⟨kelev, 0, none⟩ = some (.int .u64 elev.a0) ∧ w'.cell? ⟨kelev, 1, none⟩ = some (.int .u64 elev.a1) ∧ w'.cell? ⟨kelev, 2, none⟩ = some (.int .u64 elev.a2) ∧ w'.cell? ⟨kelev, 3, none⟩ = some (.int .u64 elev.a3) ∧ w'.cell? ⟨kelev, 4, none⟩ = some (.int .u64 elev.a4)))
          (first | ((with_reducible apply two_keep hta); assumption) | ((with_reducible apply two_keep htb); assumption) | (with_reducible apply two_drew; with_reducible apply two_alloc; exact ⟨⟨d0, d1, d2, d3, d4⟩, ⟨e0, e1, e2, e3, e4⟩⟩) | ((with_reducible apply two_drew); exact ⟨⟨d0, d1, d2, d3, d4⟩, ⟨e0, e1, e2, e3, e4⟩⟩) | ((with_reducible apply two_alloc); assumption) | ((with_reducible apply two_again); rotate_left 2; assumption; all_goals omega) | ((with_reducible apply two_sets); rotate_left 2; assumption; all_goals omega) | fail)
          (first | (go_at_call 75; refine (squared_to _ elev q1 1 _ hq1.out felev.out (by omega) rfl).mono ?_; rintro r wa ⟨rfl, hta⟩; have hsa := hta.size; (try simp at hsa); (first | (with_reducible have hz := touch_heap0 hta hzA.out) | skip)) | (go_at_call 64; refine (times_to _ nine q1 vA hvA.out fnine.out fq1.out).mono ?_; rintro r wb ⟨rfl, htb⟩; have hsb := htb.size; (try simp at hsb); (first | ((first | (with_reducible have hy := touch_heap0 htb (heap_alloc_new _ _)) | (with_reducible have hy := touch_heap0 htb hz)); obtain ⟨z0, z1, z2, z3, z4⟩ := el_cells (e := zE) hy; have f0 := frz_blk hy 0; have f1 := frz_blk hy 1; have f2 := frz_blk hy 2; have f3 := frz_blk hy 3; have f4 := frz_blk hy 4; replace hy := Lib.hid hy) | skip)))
        · (go_wp2_with fail; go_meet; exact fin_alloc (((Touch.refl Nothing _).drew.trans' hta).trans' htb))
        · (go_wp2_with fail; go_meet; exact fin_sets (z := zE) ((((Touch.refl Nothing _).drew.trans' hta).alloc _).trans' htb) hy.out (by omega))
        · (go_wp2_with fail; go_meet; exact fin_sets (z := zE) ((((Touch.refl Nothing _).alloc _).drew.trans' hta).trans' htb) hy.out (by omega))
      case rest =>
        obtain ⟨kvA, rfl, hnvA, hBvA, htc⟩ := hcut
        replace hnvA : w.heap.size < kvA := Nat.lt_of_lt_of_le (lt_of_heap hBr.out) hnvA
        obtain ⟨WvA, hWvA⟩ : ∃ W, W = wc := ⟨_, rfl⟩
        rw [← hWvA] at hBvA htc ⊢
        clear hWvA wc
        replace htW := Lib.hid (htW.out.trans' htc)
        replace hBe := Lib.hid (touch_heap0 htc hBe.out)
        replace hBr := Lib.hid (touch_heap0 htc hBr.out)
        replace hBtwo := Lib.hid (touch_heap0 htc hBtwo.out)
        replace hBnine := Lib.hid (touch_heap0 htc hBnine.out)
        replace hBelev := Lib.hid (touch_heap0 htc hBelev.out)
        replace hBvA := Lib.hid hBvA
        clear htc
        try clear d0 d1 d2 d3 d4
        try clear e0 e1 e2 e3 e4
        try clear hga
        try clear hgb
        try clear hzA
        go_upto_region 5 with fail
        obtain ⟨d0, d1, d2, d3, d4⟩ := el_cells hBvA.out
        have hga := lt_of_heap hBvA.out
        have hzA : (WvA.alloc (.cells #[.int .u64 0, .int .u64 0, .int .u64 0, .int .u64 0, .int .u64 0] 49)).drew.heap[WvA.heap.size]? = some (elC zE) := heap_alloc_new WvA (elC zE)
        replace hzA := Lib.hid hzA
        go_cut [7] (fun v wx => ∃ k : Nat, v = .pointer (some ⟨k, 0, none⟩) ∧ WvA.heap.size ≤ k ∧ wx.heap[k]? = some (elC vB) ∧ Touch Nothing WvA wx)
        case first =>
          go_region_held3 (fun w' => (w'.cell? ⟨kvA, 0, none⟩ = some (.int .u64 vA.a0) ∧ w'.cell? ⟨kvA, 1, none⟩ = some (.int .u64 vA.a1) ∧ w'.cell? ⟨kvA, 2, none⟩ = some (.int .u64 vA.a2) ∧ w'.cell? ⟨kvA, 3, none⟩ = some (.int .u64 vA.a3) ∧ w'.cell? ⟨kvA, 4, none⟩ = some (.int .u64 vA.a4)) ∧ (w'.cell? ⟨kvA, 0, none⟩ = some (.int .u64 vA.a0) ∧ w'.cell? ⟨kvA, 1, none⟩ = some (.int .u64 vA.a1) ∧ w'.cell? ⟨kvA, 2, none⟩ = some (.int .u64 vA.a2) ∧ w'.cell? ⟨kvA, 3, none⟩ = some (.int .u64 vA.a3) ∧ w'.cell? ⟨kvA, 4, none⟩ = some (.int .u64 vA.a4)))
            (first | ((with_reducible apply two_keep hta); assumption) | ((with_reducible apply two_keep htb); assumption) | (with_reducible apply two_drew; with_reducible apply two_alloc; exact ⟨⟨d0, d1, d2, d3, d4⟩, ⟨d0, d1, d2, d3, d4⟩⟩) | ((with_reducible apply two_drew); exact ⟨⟨d0, d1, d2, d3, d4⟩, ⟨d0, d1, d2, d3, d4⟩⟩) | ((with_reducible apply two_alloc); assumption) | ((with_reducible apply two_again); rotate_left 2; assumption; all_goals omega) | ((with_reducible apply two_sets); rotate_left 2; assumption; all_goals omega) | fail)
            (first | (go_at_call 75; refine (squared_to _ vA q2 5 _ hq2.out fvA.out (by omega) rfl).mono ?_; rintro r wa ⟨rfl, hta⟩; have hsa := hta.size; (try simp at hsa); (first | (with_reducible have hz := touch_heap0 hta hzA.out) | skip)) | (go_at_call 64; refine (times_to _ vA q2 vB hvB.out fvA.out fq2.out).mono ?_; rintro r wb ⟨rfl, htb⟩; have hsb := htb.size; (try simp at hsb); (first | ((first | (with_reducible have hy := touch_heap0 htb (heap_alloc_new _ _)) | (with_reducible have hy := touch_heap0 htb hz)); obtain ⟨z0, z1, z2, z3, z4⟩ := el_cells (e := zE) hy; have f0 := frz_blk hy 0; have f1 := frz_blk hy 1; have f2 := frz_blk hy 2; have f3 := frz_blk hy 3; have f4 := frz_blk hy 4; replace hy := Lib.hid hy) | skip)))
          · (go_wp2_with fail; go_meet; exact fin_alloc (((Touch.refl Nothing _).drew.trans' hta).trans' htb))
          · (go_wp2_with fail; go_meet; exact fin_sets (z := zE) ((((Touch.refl Nothing _).drew.trans' hta).alloc _).trans' htb) hy.out (by omega))
          · (go_wp2_with fail; go_meet; exact fin_sets (z := zE) ((((Touch.refl Nothing _).alloc _).drew.trans' hta).trans' htb) hy.out (by omega))
        case rest =>
          obtain ⟨kvB, rfl, hnvB, hBvB, htc⟩ := hcut
          replace hnvB : w.heap.size < kvB := Nat.lt_of_lt_of_le (lt_of_heap hBr.out) hnvB
          obtain ⟨WvB, hWvB⟩ : ∃ W, W = wc := ⟨_, rfl⟩
          rw [← hWvB] at hBvB htc ⊢
          clear hWvB wc
          replace htW := Lib.hid (htW.out.trans' htc)
          replace hBe := Lib.hid (touch_heap0 htc hBe.out)
          replace hBr := Lib.hid (touch_heap0 htc hBr.out)
          replace hBtwo := Lib.hid (touch_heap0 htc hBtwo.out)
          replace hBnine := Lib.hid (touch_heap0 htc hBnine.out)
          replace hBelev := Lib.hid (touch_heap0 htc hBelev.out)
          replace hBvA := Lib.hid (touch_heap0 htc hBvA.out)
          replace hBvB := Lib.hid hBvB
          clear htc
          try clear d0 d1 d2 d3 d4
          try clear e0 e1 e2 e3 e4
          try clear hga
          try clear hgb
          try clear hzA
          go_upto_region 6 with fail
          obtain ⟨d0, d1, d2, d3, d4⟩ := el_cells hBvB.out
          have hga := lt_of_heap hBvB.out
          have hzA : (WvB.alloc (.cells #[.int .u64 0, .int .u64 0, .int .u64 0, .int .u64 0, .int .u64 0] 49)).drew.heap[WvB.heap.size]? = some (elC zE) := heap_alloc_new WvB (elC zE)
          replace hzA := Lib.hid hzA
          go_cut [8] (fun v wx => ∃ k : Nat, v = .pointer (some ⟨k, 0, none⟩) ∧ WvB.heap.size ≤ k ∧ wx.heap[k]? = some (elC vC) ∧ Touch Nothing WvB wx)
          case first =>
            go_region_held3 (fun w' => (w'.cell? ⟨kvB, 0, none⟩ = some (.int .u64 vB.a0) ∧ w'.cell? ⟨kvB, 1, none⟩ = some (.int .u64 vB.a1) ∧ w'.cell? ⟨kvB, 2, none⟩ = some (.int .u64 vB.a2) ∧ w'.cell? ⟨kvB, 3, none⟩ = some (.int .u64 vB.a3) ∧ w'.cell? ⟨kvB, 4, none⟩ = some (.int .u64 vB.a4)) ∧ (w'.cell? ⟨kvB, 0, none⟩ = some (.int .u64 vB.a0) ∧ w'.cell? ⟨kvB, 1, none⟩ = some (.int .u64 vB.a1) ∧ w'.cell? ⟨kvB, 2, none⟩ = some (.int .u64 vB.a2) ∧ w'.cell? ⟨kvB, 3, none⟩ = some (.int .u64 vB.a3) ∧ w'.cell? ⟨kvB, 4, none⟩ = some (.int .u64 vB.a4)))
              (first | ((with_reducible apply two_keep hta); assumption) | ((with_reducible apply two_keep htb); assumption) | (with_reducible apply two_drew; with_reducible apply two_alloc; exact ⟨⟨d0, d1, d2, d3, d4⟩, ⟨d0, d1, d2, d3, d4⟩⟩) | ((with_reducible apply two_drew); exact ⟨⟨d0, d1, d2, d3, d4⟩, ⟨d0, d1, d2, d3, d4⟩⟩) | ((with_reducible apply two_alloc); assumption) | ((with_reducible apply two_again); rotate_left 2; assumption; all_goals omega) | ((with_reducible apply two_sets); rotate_left 2; assumption; all_goals omega) | fail)
              (first | (go_at_call 75; refine (squared_to _ vB q3 10 _ hq3.out fvB.out (by omega) rfl).mono ?_; rintro r wa ⟨rfl, hta⟩; have hsa := hta.size; (try simp at hsa); (first | (with_reducible have hz := touch_heap0 hta hzA.out) | skip)) | (go_at_call 64; refine (times_to _ vB q3 vC hvC.out fvB.out fq3.out).mono ?_; rintro r wb ⟨rfl, htb⟩; have hsb := htb.size; (try simp at hsb); (first | ((first | (with_reducible have hy := touch_heap0 htb (heap_alloc_new _ _)) | (with_reducible have hy := touch_heap0 htb hz)); obtain ⟨z0, z1, z2, z3, z4⟩ := el_cells (e := zE) hy; have f0 := frz_blk hy 0; have f1 := frz_blk hy 1; have f2 := frz_blk hy 2; have f3 := frz_blk hy 3; have f4 := frz_blk hy 4; replace hy := Lib.hid hy) | skip)))
            · (go_wp2_with fail; go_meet; exact fin_alloc (((Touch.refl Nothing _).drew.trans' hta).trans' htb))
            · (go_wp2_with fail; go_meet; exact fin_sets (z := zE) ((((Touch.refl Nothing _).drew.trans' hta).alloc _).trans' htb) hy.out (by omega))
            · (go_wp2_with fail; go_meet; exact fin_sets (z := zE) ((((Touch.refl Nothing _).alloc _).drew.trans' hta).trans' htb) hy.out (by omega))
          case rest =>
            obtain ⟨kvC, rfl, hnvC, hBvC, htc⟩ := hcut
            replace hnvC : w.heap.size < kvC := Nat.lt_of_lt_of_le (lt_of_heap hBr.out) hnvC
            obtain ⟨WvC, hWvC⟩ : ∃ W, W = wc := ⟨_, rfl⟩
            rw [← hWvC] at hBvC htc ⊢
            clear hWvC wc
            replace htW := Lib.hid (htW.out.trans' htc)
            replace hBe := Lib.hid (touch_heap0 htc hBe.out)
            replace hBr := Lib.hid (touch_heap0 htc hBr.out)
            replace hBtwo := Lib.hid (touch_heap0 htc hBtwo.out)
            replace hBnine := Lib.hid (touch_heap0 htc hBnine.out)
            replace hBelev := Lib.hid (touch_heap0 htc hBelev.out)
            replace hBvA := Lib.hid (touch_heap0 htc hBvA.out)
            replace hBvB := Lib.hid (touch_heap0 htc hBvB.out)
            replace hBvC := Lib.hid hBvC
            clear htc
            try clear d0 d1 d2 d3 d4
            try clear e0 e1 e2 e3 e4
            try clear hga
            try clear hgb
            try clear hzA
            go_upto_region 7 with fail
            obtain ⟨d0, d1, d2, d3, d4⟩ := el_cells hBvC.out
            have hga := lt_of_heap hBvC.out
            have hzA : (WvC.alloc (.cells #[.int .u64 0, .int .u64 0, .int .u64 0, .int .u64 0, .int .u64 0] 49)).drew.heap[WvC.heap.size]? = some (elC zE) := heap_alloc_new WvC (elC zE)
            replace hzA := Lib.hid hzA
            go_cut [9] (fun v wx => ∃ k : Nat, v = .pointer (some ⟨k, 0, none⟩) ∧ WvC.heap.size ≤ k ∧ wx.heap[k]? = some (elC vD) ∧ Touch Nothing WvC wx)
            case first =>
              go_region_held3 (fun w' => (w'.cell? ⟨kvC, 0, none⟩ = some (.int .u64 vC.a0) ∧ w'.cell? ⟨kvC, 1, none⟩ = some (.int .u64 vC.a1) ∧ w'.cell? ⟨kvC, 2, none⟩ = some (.int .u64 vC.a2) ∧ w'.cell? ⟨kvC, 3, none⟩ = some (.int .u64 vC.a3) ∧ w'.cell? ⟨kvC, 4, none⟩ = some (.int .u64 vC.a4)) ∧ (w'.cell? ⟨kvC, 0, none⟩ = some (.int .u64 vC.a0) ∧ w'.cell? ⟨kvC, 1, none⟩ = some (.int .u64 vC.a1) ∧ w'.cell? ⟨kvC, 2, none⟩ = some (.int .u64 vC.a2) ∧ w'.cell? ⟨kvC, 3, none⟩ = some (.int .u64 vC.a3) ∧ w'.cell? ⟨kvC, 4, none⟩ = some (.int .u64 vC.a4)))
                (first | ((with_reducible apply two_keep hta); assumption) | ((with_reducible apply two_keep htb); assumption) | (with_reducible apply two_drew; with_reducible apply two_alloc; exact ⟨⟨d0, d1, d2, d3, d4⟩, ⟨d0, d1, d2, d3, d4⟩⟩) | ((with_reducible apply two_drew); exact ⟨⟨d0, d1, d2, d3, d4⟩, ⟨d0, d1, d2, d3, d4⟩⟩) | ((with_reducible apply two_alloc); assumption) | ((with_reducible apply two_again); rotate_left 2; assumption; all_goals omega) | ((with_reducible apply two_sets); rotate_left 2; assumption; all_goals omega) | fail)
                (first | (go_at_call 75; refine (squared_to _ vC q4 20 _ hq4.out fvC.out (by omega) rfl).mono ?_; rintro r wa ⟨rfl, hta⟩; have hsa := hta.size; (try simp at hsa); (first | (with_reducible have hz := touch_heap0 hta hzA.out) | skip)) | (go_at_call 64; refine (times_to _ vC q4 vD hvD.out fvC.out fq4.out).mono ?_; rintro r wb ⟨rfl, htb⟩; have hsb := htb.size; (try simp at hsb); (first | ((first | (with_reducible have hy := touch_heap0 htb (heap_alloc_new _ _)) | (with_reducible have hy := touch_heap0 htb hz)); obtain ⟨z0, z1, z2, z3, z4⟩ := el_cells (e := zE) hy; have f0 := frz_blk hy 0; have f1 := frz_blk hy 1; have f2 := frz_blk hy 2; have f3 := frz_blk hy 3; have f4 := frz_blk hy 4; replace hy := Lib.hid hy) | skip)))
              · (go_wp2_with fail; go_meet; exact fin_alloc (((Touch.refl Nothing _).drew.trans' hta).trans' htb))
              · (go_wp2_with fail; go_meet; exact fin_sets (z := zE) ((((Touch.refl Nothing _).drew.trans' hta).alloc _).trans' htb) hy.out (by omega))
              · (go_wp2_with fail; go_meet; exact fin_sets (z := zE) ((((Touch.refl Nothing _).alloc _).drew.trans' hta).trans' htb) hy.out (by omega))
            case rest =>
              obtain ⟨kvD, rfl, hnvD, hBvD, htc⟩ := hcut
              replace hnvD : w.heap.size < kvD := Nat.lt_of_lt_of_le (lt_of_heap hBr.out) hnvD
              obtain ⟨WvD, hWvD⟩ : ∃ W, W = wc := ⟨_, rfl⟩
              rw [← hWvD] at hBvD htc ⊢
              clear hWvD wc
              replace htW := Lib.hid (htW.out.trans' htc)
              replace hBe := Lib.hid (touch_heap0 htc hBe.out)
              replace hBr := Lib.hid (touch_heap0 htc hBr.out)
              replace hBtwo := Lib.hid (touch_heap0 htc hBtwo.out)
              replace hBnine := Lib.hid (touch_heap0 htc hBnine.out)
              replace hBelev := Lib.hid (touch_heap0 htc hBelev.out)
              replace hBvA := Lib.hid (touch_heap0 htc hBvA.out)
              replace hBvB := Lib.hid (touch_heap0 htc hBvB.out)
              replace hBvC := Lib.hid (touch_heap0 htc hBvC.out)
              replace hBvD := Lib.hid hBvD
              clear htc
              try clear d0 d1 d2 d3 d4
              try clear e0 e1 e2 e3 e4
              try clear hga
              try clear hgb
              try clear hzA
              go_upto_region 8 with fail
              obtain ⟨d0, d1, d2, d3, d4⟩ := el_cells hBvB.out
              have hga := lt_of_heap hBvB.out
              obtain ⟨e0, e1, e2, e3, e4⟩ := el_cells hBvD.out
              have hgb := lt_of_heap hBvD.out
              have hzA : (WvD.alloc (.cells #[.int .u64 0, .int .u64 0, .int .u64 0, .int .u64 0, .int .u64 0] 49)).drew.heap[WvD.heap.size]? = some (elC zE) := heap_alloc_new WvD (elC zE)
              replace hzA := Lib.hid hzA
              go_cut [10] (fun v wx => ∃ k : Nat, v = .pointer (some ⟨k, 0, none⟩) ∧ WvD.heap.size ≤ k ∧ wx.heap[k]? = some (elC vF) ∧ Touch Nothing WvD wx)
              case first =>
                go_region_held3 (fun w' => (w'.cell? ⟨kvB, 0, none⟩ = some (.int .u64 vB.a0) ∧ w'.cell? ⟨kvB, 1, none⟩ = some (.int .u64 vB.a1) ∧ w'.cell? ⟨kvB, 2, none⟩ = some (.int .u64 vB.a2) ∧ w'.cell? ⟨kvB, 3, none⟩ = some (.int .u64 vB.a3) ∧ w'.cell? ⟨kvB, 4, none⟩ = some (.int .u64 vB.a4)) ∧ (w'.cell? ⟨kvD, 0, none⟩ = some (.int .u64 vD.a0) ∧ w'.cell? ⟨kvD, 1, none⟩ = some (.int .u64 vD.a1) ∧ w'.cell? ⟨kvD, 2, none⟩ = some (.int .u64 vD.a2) ∧ w'.cell? ⟨kvD, 3, none⟩ = some (.int .u64 vD.a3) ∧ w'.cell? ⟨kvD, 4, none⟩ = some (.int .u64 vD.a4)))
                  (first | ((with_reducible apply two_keep hta); assumption) | ((with_reducible apply two_keep htb); assumption) | (with_reducible apply two_drew; with_reducible apply two_alloc; exact ⟨⟨d0, d1, d2, d3, d4⟩, ⟨e0, e1, e2, e3, e4⟩⟩) | ((with_reducible apply two_drew); exact ⟨⟨d0, d1, d2, d3, d4⟩, ⟨e0, e1, e2, e3, e4⟩⟩) | ((with_reducible apply two_alloc); assumption) | ((with_reducible apply two_again); rotate_left 2; assumption; all_goals omega) | ((with_reducible apply two_sets); rotate_left 2; assumption; all_goals omega) | fail)
                  (first | (go_at_call 75; refine (squared_to _ vD q5 10 _ hq5.out fvD.out (by omega) rfl).mono ?_; rintro r wa ⟨rfl, hta⟩; have hsa := hta.size; (try simp at hsa); (first | (with_reducible have hz := touch_heap0 hta hzA.out) | skip)) | (go_at_call 64; refine (times_to _ vB q5 vF hvF.out fvB.out fq5.out).mono ?_; rintro r wb ⟨rfl, htb⟩; have hsb := htb.size; (try simp at hsb); (first | ((first | (with_reducible have hy := touch_heap0 htb (heap_alloc_new _ _)) | (with_reducible have hy := touch_heap0 htb hz)); obtain ⟨z0, z1, z2, z3, z4⟩ := el_cells (e := zE) hy; have f0 := frz_blk hy 0; have f1 := frz_blk hy 1; have f2 := frz_blk hy 2; have f3 := frz_blk hy 3; have f4 := frz_blk hy 4; replace hy := Lib.hid hy) | skip)))
                · (go_wp2_with fail; go_meet; exact fin_alloc (((Touch.refl Nothing _).drew.trans' hta).trans' htb))
                · (go_wp2_with fail; go_meet; exact fin_sets (z := zE) ((((Touch.refl Nothing _).drew.trans' hta).alloc _).trans' htb) hy.out (by omega))
                · (go_wp2_with fail; go_meet; exact fin_sets (z := zE) ((((Touch.refl Nothing _).alloc _).drew.trans' hta).trans' htb) hy.out (by omega))
              case rest =>
                obtain ⟨kvF, rfl, hnvF, hBvF, htc⟩ := hcut
                replace hnvF : w.heap.size < kvF := Nat.lt_of_lt_of_le (lt_of_heap hBr.out) hnvF
                obtain ⟨WvF, hWvF⟩ : ∃ W, W = wc := ⟨_, rfl⟩
                rw [← hWvF] at hBvF htc ⊢
                clear hWvF wc
                replace htW := Lib.hid (htW.out.trans' htc)
                replace hBe := Lib.hid (touch_heap0 htc hBe.out)
                replace hBr := Lib.hid (touch_heap0 htc hBr.out)
                replace hBtwo := Lib.hid (touch_heap0 htc hBtwo.out)
                replace hBnine := Lib.hid (touch_heap0 htc hBnine.out)
                replace hBelev := Lib.hid (touch_heap0 htc hBelev.out)
                replace hBvA := Lib.hid (touch_heap0 htc hBvA.out)
                replace hBvB := Lib.hid (touch_heap0 htc hBvB.out)
                replace hBvC := Lib.hid (touch_heap0 htc hBvC.out)
                replace hBvD := Lib.hid (touch_heap0 htc hBvD.out)
                replace hBvF := Lib.hid hBvF
                clear htc
                try clear d0 d1 d2 d3 d4
                try clear e0 e1 e2 e3 e4
                try clear hga
                try clear hgb
                try clear hzA
                go_upto_region 9 with fail
                obtain ⟨d0, d1, d2, d3, d4⟩ := el_cells hBvF.out
                have hga := lt_of_heap hBvF.out
                have hzA : (WvF.alloc (.cells #[.int .u64 0, .int .u64 0, .int .u64 0, .int .u64 0, .int .u64 0] 49)).drew.heap[WvF.heap.size]? = some (elC zE) := heap_alloc_new WvF (elC zE)
                replace hzA := Lib.hid hzA
                go_cut [11] (fun v wx => ∃ k : Nat, v = .pointer (some ⟨k, 0, none⟩) ∧ WvF.heap.size ≤ k ∧ wx.heap[k]? = some (elC vG) ∧ Touch Nothing WvF wx)
                case first =>
                  go_region_held3 (fun w' => (w'.cell? ⟨kvF, 0, none⟩ = some (.int .u64 vF.a0) ∧ w'.cell? ⟨kvF, 1, none⟩ = some (.int .u64 vF.a1) ∧ w'.cell? ⟨kvF, 2, none⟩ = some (.int .u64 vF.a2) ∧ w'.cell? ⟨kvF, 3, none⟩ = some (.int .u64 vF.a3) ∧ w'.cell? ⟨kvF, 4, none⟩ = some (.int .u64 vF.a4)) ∧ (w'.cell? ⟨kvF, 0, none⟩ = some (.int .u64 vF.a0) ∧ w'.cell? ⟨kvF, 1, none⟩ = some (.int .u64 vF.a1) ∧ w'.cell? ⟨kvF, 2, none⟩ = some (.int .u64 vF.a2) ∧ w'.cell? ⟨kvF, 3, none⟩ = some (.int .u64 vF.a3) ∧ w'.cell? ⟨kvF, 4, none⟩ = some (.int .u64 vF.a4)))
                    (first | ((with_reducible apply two_keep hta); assumption) | ((with_reducible apply two_keep htb); assumption) | (with_reducible apply two_drew; with_reducible apply two_alloc; exact ⟨⟨d0, d1, d2, d3, d4⟩, ⟨d0, d1, d2, d3, d4⟩⟩) | ((with_reducible apply two_drew); exact ⟨⟨d0, d1, d2, d3, d4⟩, ⟨d0, d1, d2, d3, d4⟩⟩) | ((with_reducible apply two_alloc); assumption) | ((with_reducible apply two_again); rotate_left 2; assumption; all_goals omega) | ((with_reducible apply two_sets); rotate_left 2; assumption; all_goals omega) | fail)
                    (first | (go_at_call 75; refine (squared_to _ vF q6 50 _ hq6.out fvF.out (by omega) rfl).mono ?_; rintro r wa ⟨rfl, hta⟩; have hsa := hta.size; (try simp at hsa); (first | (with_reducible have hz := touch_heap0 hta hzA.out) | skip)) | (go_at_call 64; refine (times_to _ vF q6 vG hvG.out fvF.out fq6.out).mono ?_; rintro r wb ⟨rfl, htb⟩; have hsb := htb.size; (try simp at hsb); (first | ((first | (with_reducible have hy := touch_heap0 htb (heap_alloc_new _ _)) | (with_reducible have hy := touch_heap0 htb hz)); obtain ⟨z0, z1, z2, z3, z4⟩ := el_cells (e := zE) hy; have f0 := frz_blk hy 0; have f1 := frz_blk hy 1; have f2 := frz_blk hy 2; have f3 := frz_blk hy 3; have f4 := frz_blk hy 4; replace hy := Lib.hid hy) | skip)))
                  · (go_wp2_with fail; go_meet; exact fin_alloc (((Touch.refl Nothing _).drew.trans' hta).trans' htb))
                  · (go_wp2_with fail; go_meet; exact fin_sets (z := zE) ((((Touch.refl Nothing _).drew.trans' hta).alloc _).trans' htb) hy.out (by omega))
                  · (go_wp2_with fail; go_meet; exact fin_sets (z := zE) ((((Touch.refl Nothing _).alloc _).drew.trans' hta).trans' htb) hy.out (by omega))
                case rest =>
                  obtain ⟨kvG, rfl, hnvG, hBvG, htc⟩ := hcut
                  replace hnvG : w.heap.size < kvG := Nat.lt_of_lt_of_le (lt_of_heap hBr.out) hnvG
                  obtain ⟨WvG, hWvG⟩ : ∃ W, W = wc := ⟨_, rfl⟩
                  rw [← hWvG] at hBvG htc ⊢
                  clear hWvG wc
                  replace htW := Lib.hid (htW.out.trans' htc)
                  replace hBe := Lib.hid (touch_heap0 htc hBe.out)
                  replace hBr := Lib.hid (touch_heap0 htc hBr.out)
                  replace hBtwo := Lib.hid (touch_heap0 htc hBtwo.out)
                  replace hBnine := Lib.hid (touch_heap0 htc hBnine.out)
                  replace hBelev := Lib.hid (touch_heap0 htc hBelev.out)
                  replace hBvA := Lib.hid (touch_heap0 htc hBvA.out)
                  replace hBvB := Lib.hid (touch_heap0 htc hBvB.out)
                  replace hBvC := Lib.hid (touch_heap0 htc hBvC.out)
                  replace hBvD := Lib.hid (touch_heap0 htc hBvD.out)
                  replace hBvF := Lib.hid (touch_heap0 htc hBvF.out)
                  replace hBvG := Lib.hid hBvG
                  clear htc
                  try clear d0 d1 d2 d3 d4
                  try clear e0 e1 e2 e3 e4
                  try clear hga
                  try clear hgb
                  try clear hzA
                  go_upto_region 10 with fail
                  obtain ⟨d0, d1, d2, d3, d4⟩ := el_cells hBvG.out
                  have hga := lt_of_heap hBvG.out
                  have hzA : (WvG.alloc (.cells #[.int .u64 0, .int .u64 0, .int .u64 0, .int .u64 0, .int .u64 0] 49)).drew.heap[WvG.heap.size]? = some (elC zE) := heap_alloc_new WvG (elC zE)
                  replace hzA := Lib.hid hzA
                  go_cut [12] (fun v wx => ∃ k : Nat, v = .pointer (some ⟨k, 0, none⟩) ∧ WvG.heap.size ≤ k ∧ wx.heap[k]? = some (elC vH) ∧ Touch Nothing WvG wx)
                  case first =>
                    go_region_held3 (fun w' => (w'.cell? ⟨kvG, 0, none⟩ = some (.int .u64 vG.a0) ∧ w'.cell? ⟨kvG, 1, none⟩ = some (.int .u64 vG.a1) ∧ w'.cell? ⟨kvG, 2, none⟩ = some (.int .u64 vG.a2) ∧ w'.cell? ⟨kvG, 3, none⟩ = some (.int .u64 vG.a3) ∧ w'.cell? ⟨kvG, 4, none⟩ = some (.int .u64 vG.a4)) ∧ (w'.cell? ⟨kvG, 0, none⟩ = some (.int .u64 vG.a0) ∧ w'.cell? ⟨kvG, 1, none⟩ = some (.int .u64 vG.a1) ∧ w'.cell? ⟨kvG, 2, none⟩ = some (.int .u64 vG.a2) ∧ w'.cell? ⟨kvG, 3, none⟩ = some (.int .u64 vG.a3) ∧ w'.cell? ⟨kvG, 4, none⟩ = some (.int .u64 vG.a4)))
                      (first | ((with_reducible apply two_keep hta); assumption) | ((with_reducible apply two_keep htb); assumption) | (with_reducible apply two_drew; with_reducible apply two_alloc; exact ⟨⟨d0, d1, d2, d3, d4⟩, ⟨d0, d1, d2, d3, d4⟩⟩) | ((with_reducible apply two_drew); exact ⟨⟨d0, d1, d2, d3, d4⟩, ⟨d0, d1, d2, d3, d4⟩⟩) | ((with_reducible apply two_alloc); assumption) | ((with_reducible apply two_again); rotate_left 2; assumption; all_goals omega) | ((with_reducible apply two_sets); rotate_left 2; assumption; all_goals omega) | fail)
                      (first | (go_at_call 75; refine (squared_to _ vG q7 100 _ hq7.out fvG.out (by omega) rfl).mono ?_; rintro r wa ⟨rfl, hta⟩; have hsa := hta.size; (try simp at hsa); (first | (with_reducible have hz := touch_heap0 hta hzA.out) | skip)) | (go_at_call 64; refine (times_to _ vG q7 vH hvH.out fvG.out fq7.out).mono ?_; rintro r wb ⟨rfl, htb⟩; have hsb := htb.size; (try simp at hsb); (first | ((first | (with_reducible have hy := touch_heap0 htb (heap_alloc_new _ _)) | (with_reducible have hy := touch_heap0 htb hz)); obtain ⟨z0, z1, z2, z3, z4⟩ := el_cells (e := zE) hy; have f0 := frz_blk hy 0; have f1 := frz_blk hy 1; have f2 := frz_blk hy 2; have f3 := frz_blk hy 3; have f4 := frz_blk hy 4; replace hy := Lib.hid hy) | skip)))
                    · (go_wp2_with fail; go_meet; exact fin_alloc (((Touch.refl Nothing _).drew.trans' hta).trans' htb))
                    · (go_wp2_with fail; go_meet; exact fin_sets (z := zE) ((((Touch.refl Nothing _).drew.trans' hta).alloc _).trans' htb) hy.out (by omega))
                    · (go_wp2_with fail; go_meet; exact fin_sets (z := zE) ((((Touch.refl Nothing _).alloc _).drew.trans' hta).trans' htb) hy.out (by omega))
                  case rest =>
                    obtain ⟨kvH, rfl, hnvH, hBvH, htc⟩ := hcut
                    replace hnvH : w.heap.size < kvH := Nat.lt_of_lt_of_le (lt_of_heap hBr.out) hnvH
                    obtain ⟨WvH, hWvH⟩ : ∃ W, W = wc := ⟨_, rfl⟩
                    rw [← hWvH] at hBvH htc ⊢
                    clear hWvH wc
                    replace htW := Lib.hid (htW.out.trans' htc)
                    replace hBe := Lib.hid (touch_heap0 htc hBe.out)
                    replace hBr := Lib.hid (touch_heap0 htc hBr.out)
                    replace hBtwo := Lib.hid (touch_heap0 htc hBtwo.out)
                    replace hBnine := Lib.hid (touch_heap0 htc hBnine.out)
                    replace hBelev := Lib.hid (touch_heap0 htc hBelev.out)
                    replace hBvA := Lib.hid (touch_heap0 htc hBvA.out)
                    replace hBvB := Lib.hid (touch_heap0 htc hBvB.out)
                    replace hBvC := Lib.hid (touch_heap0 htc hBvC.out)
                    replace hBvD := Lib.hid (touch_heap0 htc hBvD.out)
                    replace hBvF := Lib.hid (touch_heap0 htc hBvF.out)
                    replace hBvG := Lib.hid (touch_heap0 htc hBvG.out)
                    replace hBvH := Lib.hid hBvH
                    clear htc
                    try clear d0 d1 d2 d3 d4
                    try clear e0 e1 e2 e3 e4
                    try clear hga
                    try clear hgb
                    try clear hzA
                    go_upto_region 11 with fail
                    obtain ⟨d0, d1, d2, d3, d4⟩ := el_cells hBelev.out
                    obtain ⟨e0, e1, e2, e3, e4⟩ := el_cells hBvF.out
                    obtain ⟨c0, c1, c2, c3, c4⟩ := el_cells hBvH.out
                    have hBrD : WvH.drew.heap[w.heap.size]? = some (elC zE) := hBr.out
                    replace hBrD := Lib.hid hBrD
                    go_region_held3 (fun w' => (w'.cell? ⟨kelev, 0, none⟩ = some (.int .u64 elev.a0) ∧ w'.cell? ⟨kelev, 1, none⟩ = some (.int .u64 elev.a1) ∧ w'.cell? ⟨kelev, 2, none⟩ = some (.int .u64 elev.a2) ∧ w'.cell? ⟨kelev, 3, none⟩ = some (.int .u64 elev.a3) ∧ w'.cell? ⟨kelev, 4, none⟩ = some (.int .u64 elev.a4)) ∧ (w'.cell? ⟨kvF, 0, none⟩ = some (.int .u64 vF.a0) ∧ w'.cell? ⟨kvF, 1, none⟩ = some (.int .u64 vF.a1) ∧ w'.cell? ⟨kvF, 2, none⟩ = some (.int .u64 vF.a2) ∧ w'.cell? ⟨kvF, 3, none⟩ = some (.int .u64 vF.a3) ∧ w'.cell? ⟨kvF, 4, none⟩ = some (.int .u64 vF.a4)) ∧ (w'.cell? ⟨kvH, 0, none⟩ = some (.int .u64 vH.a0) ∧ w'.cell? ⟨kvH, 1, none⟩ = some (.int .u64 vH.a1) ∧ w'.cell? ⟨kvH, 2, none⟩ = some (.int .u64 vH.a2) ∧ w'.cell? ⟨kvH, 3, none⟩ = some (.int .u64 vH.a3) ∧ w'.cell? ⟨kvH, 4, none⟩ = some (.int .u64 vH.a4)))
                      (first | ((with_reducible apply three_keep hta); assumption) | ((with_reducible apply three_keep htb); assumption) | ((with_reducible apply three_keep htc); assumption) | ((with_reducible apply three_keep htd); assumption) | ((with_reducible apply three_drew); exact ⟨⟨d0, d1, d2, d3, d4⟩, ⟨e0, e1, e2, e3, e4⟩, ⟨c0, c1, c2, c3, c4⟩⟩) | ((with_reducible apply three_sets); rotate_left 3; assumption; all_goals omega) | fail)
                      (first | (go_at_call_of 75 (Value.agg #[.int .u64 vH.a0, .int .u64 vH.a1, .int .u64 vH.a2, .int .u64 vH.a3, .int .u64 vH.a4]); refine (squared_to _ vH q8 50 _ hq8.out fvH.out (by omega) rfl).mono ?_; rintro r wa ⟨rfl, hta⟩) | (go_at_call_of 64 (Value.agg #[.int .u64 vF.a0, .int .u64 vF.a1, .int .u64 vF.a2, .int .u64 vF.a3, .int .u64 vF.a4]); refine (times_to _ vF q8 q9 hq9.out fvF.out fq8.out).mono ?_; rintro r wb ⟨rfl, htb⟩) | (go_at_call_of 75 (Value.agg #[.int .u64 q9.a0, .int .u64 q9.a1, .int .u64 q9.a2, .int .u64 q9.a3, .int .u64 q9.a4]); refine (squared_to _ q9 qA 5 _ hqA.out fq9.out (by omega) rfl).mono ?_; rintro r wc ⟨rfl, htc⟩) | (go_at_call_of 64 (Value.agg #[.int .u64 elev.a0, .int .u64 elev.a1, .int .u64 elev.a2, .int .u64 elev.a3, .int .u64 elev.a4]); refine (times_to _ elev qA inv hinv.out felev.out fqA.out).mono ?_; rintro r wd ⟨rfl, htd⟩; have hy := touch_heap0 htd (touch_heap0 htc (touch_heap0 htb (touch_heap0 hta hBrD.out))); obtain ⟨z0, z1, z2, z3, z4⟩ := el_cells (e := zE) hy; have f0 := frz_blk hy 0; have f1 := frz_blk hy 1; have f2 := frz_blk hy 2; have f3 := frz_blk hy 3; have f4 := frz_blk hy 4; replace hy := Lib.hid hy))
                    go_wp2_with fail
                    exact bodyPost_ret (v := .agg #[.int .u64 inv.a0, .int .u64 inv.a1, .int .u64 inv.a2, .int .u64 inv.a3, .int .u64 inv.a4]) (ret_cell (P := Try.prog) rfl rfl (blk_cells (sets_blk (z := zE) (x := inv) hy.out)) Try.underlying49 rfl (by kernel_rfl)) rfl
                      ⟨rfl, (((((htW.out.drew.trans' hta).trans' htb).trans' htc).trans' htd).trans sets_touch fun i hi q => by omega)⟩

end Go.Proofs.Ytfnmnmjpcamkiaa
