/-
  LoopsRings: the walk.
-/
import Derived.Test.YtikjcobdddjlbaaDuo
namespace Go.Proofs.Ytikjcobdddjlbaa
open Go.RowKit
set_option linter.unusedVariables false
set_option linter.unusedSimpArgs false

theorem cnt_succ (f : Nat → Bool) (i : Nat) : (List.range (i + 1)).countP f = (List.range i).countP f + (if f i = true then 1 else 0) := by
  rw [List.range_succ, List.countP_append, List.countP_singleton]

set_option maxRecDepth 100000 in
set_option maxHeartbeats 12800000 in
theorem rings_walk (w : World) (p q r : Int) (hp : -9223372036854775808 ≤ p ∧ p ≤ 9223372036854775807) (hq : -9223372036854775808 ≤ q ∧ q ≤ 9223372036854775807) (hr : -9223372036854775808 ≤ r ∧ r ≤ 9223372036854775807)
    (av : Option Addr) (cv : Nat) (ls : List (Int × Int)) (hls : LoopA w av ls) (hz : ∀ x ∈ ls, (-9223372036854775808 ≤ x.1 ∧ x.1 ≤ 9223372036854775807) ∧ (-9223372036854775808 ≤ x.2 ∧ x.2 ≤ 9223372036854775807)) (hl : ls.length ≤ 9223372036854775807) :
    Calls Try.prog 4 #[.agg #[.int .i64 p, .int .i64 q, .int .i64 r], .slice av ls.length cv] w fun e w' => e = .returned (.bool true) ∧ Below w.heap.size w w' := by
  obtain ⟨W, hW⟩ : ∃ W, W = 1 + p % 20 := ⟨_, rfl⟩
  obtain ⟨D, hD⟩ : ∃ D, D = 1 + q % 12 := ⟨_, rfl⟩
  obtain ⟨H, hH⟩ : ∃ H, H = r % 4 := ⟨_, rfl⟩
  have hpm : 0 ≤ p % 20 ∧ p % 20 < 20 := by omega
  have hqm : 0 ≤ q % 12 ∧ q % 12 < 12 := by omega
  have hrm : 0 ≤ r % 4 ∧ r % 4 < 4 := by omega
  have aW : ∀ w2, Calls Try.prog 8 #[.int .i64 p, .int .i64 20] w2 fun e w' => e = .returned (.int .i64 (p % 20)) ∧ w' = w2 := fun w2 => among_any w2 p 20 hp ⟨by decide, by decide⟩
  have aD : ∀ w2, Calls Try.prog 8 #[.int .i64 q, .int .i64 12] w2 fun e w' => e = .returned (.int .i64 (q % 12)) ∧ w' = w2 := fun w2 => among_any w2 q 12 hq ⟨by decide, by decide⟩
  have aH : ∀ w2, Calls Try.prog 8 #[.int .i64 r, .int .i64 4] w2 fun e w' => e = .returned (.int .i64 (r % 4)) ∧ w' = w2 := fun w2 => among_any w2 r 4 hr ⟨by decide, by decide⟩
  replace aW := Lib.hid aW
  replace aD := Lib.hid aD
  replace aH := Lib.hid aH
  replace hW := Lib.hid hW
  replace hD := Lib.hid hD
  replace hH := Lib.hid hH
  replace hls := Lib.hid hls
  replace hz := Lib.hid hz
  obtain ⟨len, hlen⟩ : ∃ len, len = ls.length := ⟨_, rfl⟩
  rw [← hlen] at hl ⊢
  replace hlen := Lib.hid hlen
  go_enter Try.func4, Try.ntmps4
  go_upto_region 3 with (go_at_call 7; refine (works_any _).mono ?_; rintro e w1 ⟨rfl, hb1⟩; have hbx := (Touch.ofBelow0 hb1).heap (heap_alloc_new w _) (fun q => q); have c0 := cell_blk hbx 0; have c1 := cell_blk hbx 1; have c2 := cell_blk hbx 2)
  have hWi := IntWalk.i64_in (1 + p % 20) (by omega)
  have hDi := IntWalk.i64_in (1 + q % 12) (by omega)
  go_cut [5, 6, 7] (fun v u x wx => v = .int .i64 W ∧ u = .int .i64 D ∧ x = .int .i64 H ∧ Touch Nothing w1 wx)
  case first =>
    go_quiet ((first | (go_at_call_of 8 (Value.int IntKind.i64 p); exact Calls.quiet_of_same (aW.out _)) | (go_at_call_of 8 (Value.int IntKind.i64 q); exact Calls.quiet_of_same (aD.out _)) | (go_at_call_of 8 (Value.int IntKind.i64 r); exact Calls.quiet_of_same (aH.out _))))
    go_wp2_with fail
    go_meet
    exact ⟨by rw [hW.out], by rw [hD.out], by rw [hH.out], (Touch.refl _ _).drewN _⟩
  case rest =>
    obtain ⟨rfl, rfl, rfl, ht2⟩ := hcut
    have hbc : Below w.heap.size w wc := ((Below.refl _ w).alloc (Nat.le_refl _) _).trans ((hb1.trans (ht2.below hb1.size fun _ _ q => q)).mono (by simp))
    have W1 : 1 ≤ W ∧ W ≤ 20 := by have := hW.out; omega
    have D1 : 1 ≤ D ∧ D ≤ 12 := by have := hD.out; omega
    have H1 : 0 ≤ H ∧ H < 4 := by have := hH.out; omega
    have hmay : mayBe W D H := ⟨⟨by omega, by omega⟩, ⟨by omega, by omega⟩, by omega, by omega⟩
    obtain ⟨n, hn⟩ : ∃ n, n = min len 40 := ⟨_, rfl⟩
    have hn40 : n ≤ 40 := by omega
    have hnl : n ≤ len := by omega
    obtain ⟨gp, hgp⟩ : ∃ gp, gp = gapOf ls 6 := ⟨_, rfl⟩
    obtain ⟨bk, hbk⟩ : ∃ bk, bk = backOf ls (W + D) := ⟨_, rfl⟩
    obtain ⟨S, hS⟩ : ∃ S : Nat → Int, S = fun j => acc gp (j + 1) := ⟨_, rfl⟩
    obtain ⟨K, hK⟩ : ∃ K : Nat → Int, K = fun j => if 0 < bk j then S j + bk j else -1 := ⟨_, rfl⟩
    have hgp1 : ∀ k, 0 ≤ gp k ∧ gp k ≤ 10 := fun k => by rw [hgp]; unfold gapOf; omega
    have hbk1 : ∀ k, 0 ≤ bk k ∧ bk k < W + D := fun k => by
      rw [hbk]; unfold backOf
      exact ⟨Int.emod_nonneg _ (by omega), Int.emod_lt_of_pos _ (by omega)⟩
    have hP : Plan W D n S K := by
      rw [hS]
      refine plan_of ⟨by omega, by omega⟩ ⟨by omega, by omega⟩ (by omega) hgp1 fun j hj => ?_
      rw [hK, hS]
      have := hbk1 j
      simp only []
      split
      · right; omega
      · left; rfl
    have hacc : ∀ k, k ≤ 60 → 0 ≤ acc gp k ∧ acc gp k ≤ 600 := fun k hk => ⟨acc_mono (fun k => (hgp1 k).1) (Nat.zero_le k), by
      have := acc_le (fun k => (hgp1 k).2) k; omega⟩
    have o := (Own.new w wc w.heap.size hbc hbc.size hmay).duo S K
    have hN := new_yes wc W D H hmay
    replace hN := Lib.hid hN
    replace hgp1 := Lib.hid hgp1
    replace hbk1 := Lib.hid hbk1
    replace hgp := Lib.hid hgp
    replace hbk := Lib.hid hbk
    replace hS := Lib.hid hS
    replace hK := Lib.hid hK
    replace hP := Lib.hid hP
    replace hacc := Lib.hid hacc
    replace hn := Lib.hid hn
    replace o := Lib.hid o
    obtain ⟨gd, hgd⟩ : ∃ gd, gd = wc.heap.size := ⟨_, rfl⟩
    rw [← hgd] at o hN
    replace hgd := Lib.hid hgd
    clear hWi hDi c0 c1 c2 hpm hqm hrm aW aD aH hW hD hH hbx ht2
    go_upto_region 9 with (go_at_call 9; refine hN.out.mono ?_; rintro e w3 ⟨rfl, rfl⟩)
    go_wp2
    go_loopw [13, 10, 11, 12] (fun iv v1 v2 nv wr => ∃ k : Nat, k ≤ n ∧ iv = .int .i64 (k : Int) ∧ nv = .int .i64 (acc gp k) ∧ Duo w.heap.size gd (newLg W D H) v1 v2 k k S K w wr) (fun iv _ _ _ _ => n - (intOf iv).toNat)
    case atStart => exact ⟨0, Nat.zero_le _, rfl, rfl, o.out⟩
    case round =>
      obtain ⟨k, hk, rfl, rfl, hd⟩ := hrel
      have hak := hacc.out k (by omega)
      have hg1 := hgp1.out k
      have hb1' := hbk1.out k
      by_cases hlt : k < n
      · have hkl : k < ls.length := by have := hlen.out; omega
        obtain ⟨ga, oa, rfl, hga, ca, cb⟩ := hls.out k hkl
        have ht0 := Touch.ofBelow hd.hb
        have da := ht0.cell ca (show ¬ w.heap.size ≤ ga by omega)
        obtain ⟨⟨x1, x2⟩, hx⟩ : ∃ x, x = ls[k] := ⟨_, rfl⟩
        rw [← hx] at da ca cb
        have hxz := hz.out (x1, x2) (by rw [hx]; exact List.getElem_mem _)
        have e1 : gp k = x1 % 6 := by rw [hgp.out]; unfold gapOf; simp [List.getD_eq_getElem?_getD, List.getElem?_eq_getElem hkl, ← hx]
        have e2 : bk k = x2 % (W + D) := by rw [hbk.out]; unfold backOf; simp [List.getD_eq_getElem?_getD, List.getElem?_eq_getElem hkl, ← hx]
        have aG := among_any wr x1 6 hxz.1 ⟨by decide, by decide⟩
        rw [← e1] at aG
        replace aG := Lib.hid aG
        have aB := fun w2 => among_any w2 x2 (W + D) hxz.2 ⟨by omega, by omega⟩
        rw [← e2] at aB
        replace aB := Lib.hid aB
        have eS : acc gp k + gp k = S k := by rw [hS.out]; rfl
        have hSk := hP.out.hS k hlt
        replace hx := Lib.hid hx
        replace hxz := Lib.hid hxz
        replace cb := Lib.hid cb
        clear ca
        replace eS := Lib.hid eS
        have f1 : (k : Int) < len := by omega
        have f2 : (k : Int) < 40 := by omega
        have hwi := IntWalk.i64_in (acc gp k + gp k) (by omega)
        have r1 : row S k ++ [.int .i64 (acc gp k + gp k)] = row S (k + 1) := by rw [eS.out, row_succ]
        have k9 : k + 1 ≤ maxLen := by unfold maxLen; omega
        have k8 : (k + 1) * 8 ≤ 140737488355328 := by omega
        clear e1 e2
        replace r1 := Lib.hid r1
        replace k9 := Lib.hid k9
        replace k8 := Lib.hid k8
        by_cases hbp : 0 < bk k
        · have ek : K k = S k + bk k := by rw [hK.out]; exact if_pos hbp
          have r2 : row K k ++ [.int .i64 (acc gp k + gp k + bk k)] = row K (k + 1) := by rw [eS.out, ← ek, row_succ]
          clear ek
          replace r2 := Lib.hid r2
          as_aux_lemma =>
            go_wp2_with (first
              | (go_at_call_of 8 (Value.int IntKind.i64 x1); refine aG.out.mono ?_; rintro e w4 ⟨rfl, rfl⟩)
              | (go_at_call_of 8 (Value.int IntKind.i64 x2); refine (aB.out _).mono ?_; rintro e w4 ⟨rfl, rfl⟩)
              | (at_builtin; refine wpList_app intsE rfl (.tmp 66) (.tmp 68) rfl rfl (hd.o1.alloc _) rfl (m := 1) (news := [.int .i64 (acc gp k + gp k)]) (.inr ⟨⟨_, 0, none⟩, 1, rfl, rfl, fun j u hu => cells_new _ _ _ j u hu, one_int _⟩) rfl r1.out k9.out k8.out ?_; intro v4 w4 ho4 hg4 hv4; have hd1 := hd.app1 ho4 hg4 hv4; clear ho4 hg4 hv4 hd; have db := (Touch.ofBelow hd1.hb).cell cb.out (show ¬ w.heap.size ≤ ga by omega))
              | (at_builtin; refine wpList_app intsE rfl (.tmp 81) (.tmp 85) rfl rfl (hd1.o2.alloc _) rfl (m := 1) (news := [.int .i64 (acc gp k + gp k + bk k)]) (.inr ⟨⟨_, 0, none⟩, 1, rfl, rfl, fun j u hu => cells_new _ _ _ j u hu, one_int _⟩) rfl r2.out k9.out k8.out ?_; intro v5 w5 ho5 hg5 hv5; have hd2 := hd1.app2 ho5 hg5 hv5; clear ho5 hg5 hv5 hd1))
            exact ⟨⟨k + 1, by omega, by simp, rfl, hd2⟩, by simp [intOf]; omega⟩
        · have ek : K k = -1 := by rw [hK.out]; exact if_neg hbp
          have r2 : row K k ++ [.int .i64 (-1)] = row K (k + 1) := by rw [← row_succ, ek]
          clear ek
          replace r2 := Lib.hid r2
          as_aux_lemma =>
            go_wp2_with (first
              | (go_at_call_of 8 (Value.int IntKind.i64 x1); refine aG.out.mono ?_; rintro e w4 ⟨rfl, rfl⟩)
              | (go_at_call_of 8 (Value.int IntKind.i64 x2); refine (aB.out _).mono ?_; rintro e w4 ⟨rfl, rfl⟩)
              | (at_builtin; refine wpList_app intsE rfl (.tmp 66) (.tmp 68) rfl rfl (hd.o1.alloc _) rfl (m := 1) (news := [.int .i64 (acc gp k + gp k)]) (.inr ⟨⟨_, 0, none⟩, 1, rfl, rfl, fun j u hu => cells_new _ _ _ j u hu, one_int _⟩) rfl r1.out k9.out k8.out ?_; intro v4 w4 ho4 hg4 hv4; have hd1 := hd.app1 ho4 hg4 hv4; clear ho4 hg4 hv4 hd; have db := (Touch.ofBelow hd1.hb).cell cb.out (show ¬ w.heap.size ≤ ga by omega))
              | (at_builtin; refine wpList_app intsE rfl (.tmp 87) (.tmp 88) rfl rfl (hd1.o2.alloc _) rfl (m := 1) (news := [.int .i64 (-1)]) (.inr ⟨⟨_, 0, none⟩, 1, rfl, rfl, fun j u hu => cells_new _ _ _ j u hu, one_int _⟩) rfl r2.out k9.out k8.out ?_; intro v5 w5 ho5 hg5 hv5; have hd2 := hd1.app2 ho5 hg5 hv5; clear ho5 hg5 hv5 hd1))
            exact ⟨⟨k + 1, by omega, by simp, rfl, hd2⟩, by simp [intOf]; omega⟩
      · have hkn : k = n := by omega
        subst hkn
        have hcs : ((k : Int) < len ∧ ¬ (k : Int) < 40) ∨ ¬ (k : Int) < len := by have := hn.out; omega
        obtain ⟨a1, c1, rfl⟩ := owns_slice hd.o1
        obtain ⟨a2, c2, rfl⟩ := owns_slice hd.o2
        have hd0 : Duo w.heap.size gd (led W D H k S K 0 0 0) (.slice a1 k c1) (.slice a2 k c2) k k S K w wr := by rw [led_first hP.out]; exact hd
        replace hd0 := Lib.hid hd0
        clear hd
        rcases hcs with ⟨f1, f2⟩ | f1
        all_goals go_wp2
        all_goals (
          go_loopw [15] (fun tv wr2 => ∃ t now : Int, 0 ≤ now ∧ now ≤ t ∧ t ≤ acc gp k + W + D + 3 ∧ tv = .int .i64 t ∧ Duo w.heap.size gd (led W D H k S K t 0 now) (.slice a1 k c1) (.slice a2 k c2) k k S K w wr2) (fun tv _ => (acc gp k + W + D + 3 - intOf tv).toNat)
          case atStart => exact ⟨0, 0, by omega, by omega, by omega, rfl, hd0.out⟩
          case round =>
            obtain ⟨t, now, hnow, hnt, htE, rfl, hdt⟩ := hrel
            by_cases hte : t ≤ acc gp k + W + D + 2
            · replace hdt := Lib.hid hdt
              go_wp2
              go_loopw [102, 16] (fun iv lv wr3 => ∃ (i c : Nat) (nw : Int), i ≤ k ∧ c ≤ i ∧ Hid (c = (List.range i).countP (lateJ W D S K t)) ∧ 0 ≤ nw ∧ nw ≤ t ∧ iv = .int .i64 (i : Int) ∧ lv = .int .i64 (c : Int) ∧ Duo w.heap.size gd (led W D H k S K t i nw) (.slice a1 k c1) (.slice a2 k c2) k k S K w wr3) (fun iv _ _ => k - (intOf iv).toNat)
              case atStart => exact ⟨0, 0, now, by omega, by omega, Lib.hid rfl, by omega, by omega, rfl, rfl, hdt.out⟩
              case round =>
                clear hdt
                obtain ⟨i, c, nw, hik, hci, hcn, hnw0, hnwt, rfl, rfl, hdi⟩ := hrel
                have hak := hacc.out k (by omega)
                have ht1 : t ≤ 1000000 := by omega
                by_cases hin : i < k
                · have hSi := hP.out.hS i hin
                  have hKi := hP.out.hB i hin
                  have hcs := cnt_succ (lateJ W D S K t) i
                  rw [← hcn.out] at hcs
                  obtain ⟨ib, hib⟩ : ∃ ib, ib = idS i := ⟨_, rfl⟩
                  have hI := hdi.idc (i := i) (by omega)
                  rw [← hib] at hI
                  have hz := Lib.hid (show ib.size ≤ 9223372036854775807 by rw [hib, idS_size]; decide)
                  obtain ⟨g1, cap1, hv1, q1⟩ := row_cell hdi.o1 hin
                  obtain ⟨g2, cap2, hv2, q2⟩ := row_cell hdi.o2 hin
                  cases hv1
                  cases hv2
                  by_cases hs : S i = t
                  · have hl := led_sent hP.out (H := H) hnwt hnw0 ht1 hin hs
                    have hk1 : (K i == t) = false := by simp; omega
                    have hs1 : (S i == t) = true := by simp [hs]
                    have hL : lateJ W D S K t i = false := by unfold lateJ; simp; omega
                    rw [hL, if_neg (by simp)] at hcs
                    rw [← hib] at hl
                    replace hcs := Lib.hid hcs
                    replace hl := Lib.hid hl
                    replace hib := Lib.hid hib
                    replace hI := Lib.hid hI
                    have l1 : t - W - D < S i := by omega
                    have l2 : ¬ S i ≤ t - D := by omega
                    replace hs := Lib.hid hs
                    clear hdi q2
                    as_aux_lemma =>
                      go_wp2_with (first
                        | (go_at_call 11; refine hI.out.mono ?_; rintro e w6 ⟨rfl, hd6⟩)
                        | (go_at_call 10; refine (hd6.sent hz.out hl.out).mono ?_; rintro e w7 ⟨rfl, hd7⟩; obtain ⟨_, _, hv1, q1⟩ := row_cell hd7.o1 hin; cases hv1; obtain ⟨_, _, hv2, q2⟩ := row_cell hd7.o2 hin; cases hv2))
                      exact ⟨⟨i + 1, c, t, by omega, by omega, Lib.hid hcs.out.symm, by omega, by omega, by simp, rfl, hd7⟩, by simp [intOf]; omega⟩
                  · have hs1 : (S i == t) = false := by simp [hs]
                    replace hs := Lib.hid hs
                    by_cases hk : K i = t
                    · have hl := led_back hP.out (H := H) hnwt hnw0 ht1 hin hk
                      have hk1 : (K i == t) = true := by simp [hk]
                      have hL : lateJ W D S K t i = false := by unfold lateJ; simp; omega
                      rw [hL, if_neg (by simp)] at hcs
                      rw [← hib] at hl
                      replace hcs := Lib.hid hcs
                      replace hl := Lib.hid hl
                      replace hib := Lib.hid hib
                      replace hI := Lib.hid hI
                      have l1 : t - W - D < S i := by omega
                      have l3 : 0 ≤ K i := by omega
                      have l4 : K i ≤ t := by omega
                      replace hk := Lib.hid hk
                      clear hdi
                      by_cases l2 : S i ≤ t - D
                      all_goals (
                        as_aux_lemma =>
                          go_wp2_with (first
                            | (go_at_call 11; refine hI.out.mono ?_; rintro e w6 ⟨rfl, hd6⟩)
                            | (go_at_call 12; refine (hd6.back hl.out).mono ?_; rintro e w7 ⟨rfl, hd7⟩; clear q1 q2; obtain ⟨_, _, hv1, q1⟩ := row_cell hd7.o1 hin; cases hv1; obtain ⟨_, _, hv2, q2⟩ := row_cell hd7.o2 hin; cases hv2))
                          exact ⟨⟨i + 1, c, t, by omega, by omega, Lib.hid hcs.out.symm, by omega, by omega, by simp, rfl, hd7⟩, by simp [intOf]; omega⟩)
                    · have hk1 : (K i == t) = false := by simp [hk]
                      rw [led_skip hP.out hs.out hk] at hdi
                      replace hdi := Lib.hid hdi
                      replace hk := Lib.hid hk
                      replace hib := Lib.hid hib
                      clear hI
                      by_cases l1 : t - W - D < S i
                      · by_cases l2 : S i ≤ t - D
                        · by_cases l3 : 0 ≤ K i
                          · by_cases l4 : K i ≤ t
                            · have hL : lateJ W D S K t i = false := by unfold lateJ; simp; omega
                              rw [hL, if_neg (by simp)] at hcs
                              replace hcs := Lib.hid hcs
                              as_aux_lemma =>
                                go_wp2
                                exact ⟨⟨i + 1, c, nw, by omega, by omega, Lib.hid hcs.out.symm, by omega, by omega, by simp, rfl, hdi.out⟩, by simp [intOf]; omega⟩
                            · have hL : lateJ W D S K t i = true := by unfold lateJ; simp; omega
                              rw [hL, if_pos rfl] at hcs
                              replace hcs := Lib.hid hcs
                              as_aux_lemma =>
                                go_wp2
                                exact ⟨⟨i + 1, c + 1, nw, by omega, by omega, Lib.hid hcs.out.symm, by omega, by omega, by simp, by simp, hdi.out⟩, by simp [intOf]; omega⟩
                          · have hL : lateJ W D S K t i = true := by unfold lateJ; simp; omega
                            rw [hL, if_pos rfl] at hcs
                            replace hcs := Lib.hid hcs
                            as_aux_lemma =>
                              go_wp2
                              exact ⟨⟨i + 1, c + 1, nw, by omega, by omega, Lib.hid hcs.out.symm, by omega, by omega, by simp, by simp, hdi.out⟩, by simp [intOf]; omega⟩
                        · have hL : lateJ W D S K t i = false := by unfold lateJ; simp; omega
                          rw [hL, if_neg (by simp)] at hcs
                          replace hcs := Lib.hid hcs
                          as_aux_lemma =>
                            go_wp2
                            exact ⟨⟨i + 1, c, nw, by omega, by omega, Lib.hid hcs.out.symm, by omega, by omega, by simp, rfl, hdi.out⟩, by simp [intOf]; omega⟩
                      · have hL : lateJ W D S K t i = false := by unfold lateJ; simp; omega
                        rw [hL, if_neg (by simp)] at hcs
                        replace hcs := Lib.hid hcs
                        as_aux_lemma =>
                          go_wp2
                          exact ⟨⟨i + 1, c, nw, by omega, by omega, Lib.hid hcs.out.symm, by omega, by omega, by simp, rfl, hdi.out⟩, by simp [intOf]; omega⟩
                · obtain rfl : i = k := by omega
                  have hl := led_late hP.out (H := H) hnwt hnw0 ht1
                  rw [← hcn.out] at hl
                  have hl2 := led_late hP.out (H := H) (Int.le_refl t) (by omega) ht1
                  rw [← hcn.out] at hl2
                  have hA := hdi.late hl
                  replace hA := Lib.hid hA
                  replace hl2 := Lib.hid hl2
                  clear hl hdi
                  obtain ⟨up, hup⟩ : ∃ up, up = decide (H < (c : Int)) := ⟨_, rfl⟩
                  have hB : ∀ w8, Duo w.heap.size gd (led W D H i S K t i t) (.slice a1 i c1) (.slice a2 i c2) i i S K w w8 → Calls Try.prog 13 #[.pointer (some ⟨gd, 0, none⟩), .int .i64 t] w8 fun e w' => e = .returned (.tuple #[.bool up, .int .i64 0]) ∧ Duo w.heap.size gd (led W D H i S K t i t) (.slice a1 i c1) (.slice a2 i c2) i i S K w w' := fun _ h => by
                    rw [hup]; exact h.alarm hl2.out
                  replace hB := Lib.hid hB
                  by_cases hHc : H < (c : Int)
                  · have hu : up = true := by rw [hup]; exact decide_eq_true hHc
                    subst hu
                    replace hup := Lib.hid hup
                    as_aux_lemma =>
                      go_wp2_with (first
                        | (go_at_call 15; refine hA.out.mono ?_; rintro e w8 ⟨rfl, hd8⟩)
                        | (go_at_call 13; refine (hB.out _ hd8).mono ?_; rintro e w9 ⟨rfl, hd9⟩))
                      rw [led_next hP.out] at hd9
                      exact ⟨⟨t + 1, t, by omega, by omega, by omega, by simp, hd9⟩, by simp [intOf]; omega⟩
                  · have hu : up = false := by rw [hup]; exact decide_eq_false hHc
                    subst hu
                    replace hup := Lib.hid hup
                    as_aux_lemma =>
                      go_wp2_with (first
                        | (go_at_call 15; refine hA.out.mono ?_; rintro e w8 ⟨rfl, hd8⟩)
                        | (go_at_call 13; refine (hB.out _ hd8).mono ?_; rintro e w9 ⟨rfl, hd9⟩))
                      rw [led_next hP.out] at hd9
                      exact ⟨⟨t + 1, t, by omega, by omega, by omega, by simp, hd9⟩, by simp [intOf]; omega⟩
            · have hbf := hdt.hb
              as_aux_lemma =>
                go_wp2
                go_ret
                exact ⟨rfl, hbf⟩)

theorem LoopsRings_walk (W : World) (p : Int) (hp : -9223372036854775808 ≤ p ∧ p ≤ 9223372036854775807) (q : Int) (hq : -9223372036854775808 ≤ q ∧ q ≤ 9223372036854775807) (r : Int) (hr : -9223372036854775808 ≤ r ∧ r ≤ 9223372036854775807)
    (a : Option Addr) (c : Nat) (ls : List (Int × Int)) (e : LoopA W a ls) (z : ∀ x ∈ ls, (-9223372036854775808 ≤ x.1 ∧ x.1 ≤ 9223372036854775807) ∧ (-9223372036854775808 ≤ x.2 ∧ x.2 ≤ 9223372036854775807)) (l : ls.length * 16 ≤ 140737488351232) :
    Calls Try.prog 4 #[.agg #[.int .i64 p, .int .i64 q, .int .i64 r], .slice a ls.length c] W fun e W' => e = .returned (.bool true) ∧ Below W.heap.size W W' :=
  rings_walk W p q r hp hq hr a c ls e z (by omega)

end Go.Proofs.Ytikjcobdddjlbaa
