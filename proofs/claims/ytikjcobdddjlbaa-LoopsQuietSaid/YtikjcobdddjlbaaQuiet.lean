/-
  LoopsQuiet: the walk.
-/
import Derived.Test.YtikjcobdddjlbaaDuo
namespace Go.Proofs.Ytikjcobdddjlbaa
open Go.RowKit
set_option linter.unusedVariables false
set_option linter.unusedSimpArgs false

set_option maxRecDepth 100000 in
set_option maxHeartbeats 6400000 in
theorem quiet_walk (w : World) (p q r : Int) (hp : -9223372036854775808 ≤ p ∧ p ≤ 9223372036854775807) (hq : -9223372036854775808 ≤ q ∧ q ≤ 9223372036854775807)
    (av : Option Addr) (cv : Nat) (ls : List (Int × Int)) (hls : LoopA w av ls) (hz : ∀ x ∈ ls, (-9223372036854775808 ≤ x.1 ∧ x.1 ≤ 9223372036854775807) ∧ (-9223372036854775808 ≤ x.2 ∧ x.2 ≤ 9223372036854775807)) (hl : ls.length ≤ 9223372036854775807) :
    Calls Try.prog 3 #[.agg #[.int .i64 p, .int .i64 q, .int .i64 r], .slice av ls.length cv] w fun e w' => e = .returned (.bool true) ∧ Below w.heap.size w w' := by
  obtain ⟨W, hW⟩ : ∃ W, W = 1 + p % 50 := ⟨_, rfl⟩
  obtain ⟨D, hD⟩ : ∃ D, D = 2 + q % 30 := ⟨_, rfl⟩
  have hpm : 0 ≤ p % 50 ∧ p % 50 < 50 := by omega
  have hqm : 0 ≤ q % 30 ∧ q % 30 < 30 := by omega
  have aW : ∀ w2, Calls Try.prog 8 #[.int .i64 p, .int .i64 50] w2 fun e w' => e = .returned (.int .i64 (p % 50)) ∧ w' = w2 := fun w2 => among_any w2 p 50 hp ⟨by decide, by decide⟩
  have aD : ∀ w2, Calls Try.prog 8 #[.int .i64 q, .int .i64 30] w2 fun e w' => e = .returned (.int .i64 (q % 30)) ∧ w' = w2 := fun w2 => among_any w2 q 30 hq ⟨by decide, by decide⟩
  replace aW := Lib.hid aW
  replace aD := Lib.hid aD
  replace hW := Lib.hid hW
  replace hD := Lib.hid hD
  replace hls := Lib.hid hls
  replace hz := Lib.hid hz
  obtain ⟨len, hlen⟩ : ∃ len, len = ls.length := ⟨_, rfl⟩
  rw [← hlen] at hl ⊢
  replace hlen := Lib.hid hlen
  go_enter Try.func3, Try.ntmps3
  go_upto_region 3 with (go_at_call 7; refine (works_any _).mono ?_; rintro e w1 ⟨rfl, hb1⟩; have hbx := (Touch.ofBelow0 hb1).heap (heap_alloc_new w _) (fun q => q); have c0 := cell_blk hbx 0; have c1 := cell_blk hbx 1)
  have hWi := IntWalk.i64_in (1 + p % 50) (by omega)
  have hDi := IntWalk.i64_in (2 + q % 30) (by omega)
  go_cut [5, 6] (fun v u wx => v = .int .i64 W ∧ u = .int .i64 D ∧ Touch Nothing w1 wx)
  case first =>
    go_quiet ((first | (go_at_call_of 8 (Value.int IntKind.i64 p); exact Calls.quiet_of_same (aW.out _)) | (go_at_call_of 8 (Value.int IntKind.i64 q); exact Calls.quiet_of_same (aD.out _))))
    go_wp2_with fail
    go_meet
    exact ⟨by rw [hW.out], by rw [hD.out], (Touch.refl _ _).drewN _⟩
  case rest =>
    obtain ⟨rfl, rfl, ht2⟩ := hcut
    have hbc : Below w.heap.size w wc := ((Below.refl _ w).alloc (Nat.le_refl _) _).trans ((hb1.trans (ht2.below hb1.size fun _ _ q => q)).mono (by simp))
    have W1 : 1 ≤ W ∧ W ≤ 50 := by have := hW.out; omega
    have D1 : 2 ≤ D ∧ D ≤ 31 := by have := hD.out; omega
    have hmay : mayBe W D 0 := ⟨⟨by omega, by omega⟩, ⟨by omega, by omega⟩, by omega, by omega⟩
    obtain ⟨n, hn⟩ : ∃ n, n = min len 60 := ⟨_, rfl⟩
    have hn60 : n ≤ 60 := by omega
    have hnl : n ≤ len := by omega
    obtain ⟨gp, hgp⟩ : ∃ gp, gp = gapOf ls 10 := ⟨_, rfl⟩
    obtain ⟨bk, hbk⟩ : ∃ bk, bk = backOf ls (D - 1) := ⟨_, rfl⟩
    obtain ⟨S, hS⟩ : ∃ S : Nat → Int, S = fun j => acc gp (j + 1) := ⟨_, rfl⟩
    obtain ⟨K, hK⟩ : ∃ K : Nat → Int, K = fun j => S j + 1 + bk j := ⟨_, rfl⟩
    have hgp1 : ∀ k, 0 ≤ gp k ∧ gp k ≤ 10 := fun k => by rw [hgp]; unfold gapOf; omega
    have hbk1 : ∀ k, 0 ≤ bk k ∧ bk k < D - 1 := fun k => by
      rw [hbk]; unfold backOf
      exact ⟨Int.emod_nonneg _ (by omega), Int.emod_lt_of_pos _ (by omega)⟩
    have hP : Plan W D n S K := by
      rw [hS]
      refine plan_of ⟨by omega, by omega⟩ ⟨by omega, by omega⟩ hn60 hgp1 fun j hj => .inr ?_
      rw [hK, hS]
      have := hbk1 j
      simp only []
      omega
    have hacc : ∀ k, k ≤ 60 → 0 ≤ acc gp k ∧ acc gp k ≤ 600 := fun k hk => ⟨acc_mono (fun k => (hgp1 k).1) (Nat.zero_le k), by
      have := acc_le (fun k => (hgp1 k).2) k; omega⟩
    have hlate : ∀ t : Int, (List.range n).countP (lateJ W D S K t) = 0 := fun t => led_none hP 0 fun j hj => by
      have h1 := hbk1 j
      unfold lateJ
      rw [hK]
      have h2 := (hP.hS j hj).1
      simp
      omega
    have o := (Own.new w wc w.heap.size hbc hbc.size hmay).duo S K
    have hN := new_yes wc W D 0 hmay
    replace hN := Lib.hid hN
    replace hgp1 := Lib.hid hgp1
    replace hbk1 := Lib.hid hbk1
    replace hgp := Lib.hid hgp
    replace hbk := Lib.hid hbk
    replace hS := Lib.hid hS
    replace hK := Lib.hid hK
    replace hP := Lib.hid hP
    replace hacc := Lib.hid hacc
    replace hlate := Lib.hid hlate
    replace hn := Lib.hid hn
    replace o := Lib.hid o
    obtain ⟨gd, hgd⟩ : ∃ gd, gd = wc.heap.size := ⟨_, rfl⟩
    rw [← hgd] at o hN
    replace hgd := Lib.hid hgd
    clear hWi hDi c0 c1 hpm hqm aW aD hW hD hbx ht2
    go_upto_region 9 with (go_at_call 9; refine hN.out.mono ?_; rintro e w3 ⟨rfl, rfl⟩)
    go_wp2
    go_loopw [12, 9, 10, 11] (fun iv v1 v2 nv wr => ∃ k : Nat, k ≤ n ∧ iv = .int .i64 (k : Int) ∧ nv = .int .i64 (acc gp k) ∧ Duo w.heap.size gd (newLg W D 0) v1 v2 k k S K w wr) (fun iv _ _ _ _ => n - (intOf iv).toNat)
    case atStart => exact ⟨0, Nat.zero_le _, rfl, rfl, o.out⟩
    case round =>
      obtain ⟨k, hk, rfl, rfl, hd⟩ := hrel
      have hak := hacc.out k (by omega)
      have hg1 := hgp1.out k
      have hb1' := hbk1.out k
      by_cases hlt : k < n
      · have hkl : k < ls.length := by have := hlen.out; omega
        obtain ⟨ga, oa, rfl, hga, ca, cb⟩ := hls.out k hkl
        have ht0 := Touch.ofBelow hd.hb
        have da := ht0.cell ca (show ¬ w.heap.size ≤ ga by omega)
        have db := ht0.cell cb (show ¬ w.heap.size ≤ ga by omega)
        obtain ⟨⟨x1, x2⟩, hx⟩ : ∃ x, x = ls[k] := ⟨_, rfl⟩
        rw [← hx] at da db ca cb
        have hxz := hz.out (x1, x2) (by rw [hx]; exact List.getElem_mem _)
        have e1 : gp k = x1 % 10 := by rw [hgp.out]; unfold gapOf; simp [List.getD_eq_getElem?_getD, List.getElem?_eq_getElem hkl, ← hx]
        have e2 : bk k = x2 % (D - 1) := by rw [hbk.out]; unfold backOf; simp [List.getD_eq_getElem?_getD, List.getElem?_eq_getElem hkl, ← hx]
        have aG := among_any wr x1 10 hxz.1 ⟨by decide, by decide⟩
        rw [← e1] at aG
        replace aG := Lib.hid aG
        have aB := fun w2 => among_any w2 x2 (D - 1) hxz.2 ⟨by omega, by omega⟩
        rw [← e2] at aB
        replace aB := Lib.hid aB
        have eS : acc gp k + gp k = S k := by rw [hS.out]; rfl
        have eK : S k + 1 + bk k = K k := by rw [hK.out]
        have hSk := hP.out.hS k hlt
        replace hx := Lib.hid hx
        replace hxz := Lib.hid hxz
        replace cb := Lib.hid cb
        clear ca db
        replace eS := Lib.hid eS
        replace eK := Lib.hid eK
        have f1 : (k : Int) < len := by omega
        have f2 : (k : Int) < 60 := by omega
        have hwi := IntWalk.i64_in (acc gp k + gp k) (by omega)
        have r1 : row S k ++ [.int .i64 (acc gp k + gp k)] = row S (k + 1) := by rw [eS.out, row_succ]
        have r2 : row K k ++ [.int .i64 (acc gp k + gp k + 1 + bk k)] = row K (k + 1) := by rw [eS.out, eK.out, row_succ]
        have k9 : k + 1 ≤ maxLen := by unfold maxLen; omega
        clear e1 e2
        replace r1 := Lib.hid r1
        replace r2 := Lib.hid r2
        replace k9 := Lib.hid k9
        go_wp2_with (first
          | (go_at_call_of 8 (Value.int IntKind.i64 x1); refine aG.out.mono ?_; rintro e w4 ⟨rfl, rfl⟩)
          | (go_at_call_of 8 (Value.int IntKind.i64 x2); refine (aB.out _).mono ?_; rintro e w4 ⟨rfl, rfl⟩)
          | (at_builtin; refine wpList_app intsE rfl (.tmp 57) (.tmp 59) rfl rfl (hd.o1.alloc _) rfl (m := 1) (news := [.int .i64 (acc gp k + gp k)]) (.inr ⟨⟨_, 0, none⟩, 1, rfl, rfl, fun j u hu => cells_new _ _ _ j u hu, one_int _⟩) rfl r1.out k9.out (by omega) ?_; intro v4 w4 ho4 hg4 hv4; have hd1 := hd.app1 ho4 hg4 hv4; clear ho4 hg4 hv4 hd; have db := (Touch.ofBelow hd1.hb).cell cb.out (show ¬ w.heap.size ≤ ga by omega))
          | (at_builtin; refine wpList_app intsE rfl (.tmp 61) (.tmp 73) rfl rfl (hd1.o2.alloc _) rfl (m := 1) (news := [.int .i64 (acc gp k + gp k + 1 + bk k)]) (.inr ⟨⟨_, 0, none⟩, 1, rfl, rfl, fun j u hu => cells_new _ _ _ j u hu, one_int _⟩) rfl r2.out k9.out (by omega) ?_; intro v5 w5 ho5 hg5 hv5; have hd2 := hd1.app2 ho5 hg5 hv5; clear ho5 hg5 hv5 hd1))
        exact ⟨⟨k + 1, by omega, by simp, rfl, hd2⟩, by simp [intOf]; omega⟩
      · have hkn : k = n := by omega
        subst hkn
        have hcs : ((k : Int) < len ∧ ¬ (k : Int) < 60) ∨ ¬ (k : Int) < len := by have := hn.out; omega
        obtain ⟨a1, c1, rfl⟩ := owns_slice hd.o1
        obtain ⟨a2, c2, rfl⟩ := owns_slice hd.o2
        have hd0 : Duo w.heap.size gd (led W D 0 k S K 0 0 0) (.slice a1 k c1) (.slice a2 k c2) k k S K w wr := by rw [led_first hP.out]; exact hd
        replace hd0 := Lib.hid hd0
        clear hd
        rcases hcs with ⟨f1, f2⟩ | f1
        all_goals go_wp2
        all_goals (
          go_loopw [13] (fun tv wr2 => ∃ t now : Int, 0 ≤ now ∧ (now = t - 1 ∨ (t = 0 ∧ now = 0)) ∧ t ≤ acc gp k + W + 2 * D + 1 ∧ tv = .int .i64 t ∧ Duo w.heap.size gd (led W D 0 k S K t 0 now) (.slice a1 k c1) (.slice a2 k c2) k k S K w wr2) (fun tv _ => (acc gp k + W + 2 * D + 1 - intOf tv).toNat)
          case atStart => exact ⟨0, 0, by omega, by omega, by omega, rfl, hd0.out⟩
          case round =>
            obtain ⟨t, now, hnow, hnt, htE, rfl, hdt⟩ := hrel
            by_cases hte : t ≤ acc gp k + W + 2 * D
            · replace hdt := Lib.hid hdt
              go_wp2
              go_loopw [87] (fun iv wr3 => ∃ (i : Nat) (nw : Int), i ≤ k ∧ 0 ≤ nw ∧ nw ≤ t ∧ iv = .int .i64 (i : Int) ∧ Duo w.heap.size gd (led W D 0 k S K t i nw) (.slice a1 k c1) (.slice a2 k c2) k k S K w wr3) (fun iv _ => k - (intOf iv).toNat)
              case atStart => exact ⟨0, now, by omega, by omega, by omega, rfl, hdt.out⟩
              case round =>
                clear hdt
                obtain ⟨i, nw, hik, hnw0, hnwt, rfl, hdi⟩ := hrel
                have hak := hacc.out k (by omega)
                have ht1 : t ≤ 1000000 := by omega
                by_cases hin : i < k
                · have hSi := hP.out.hS i hin
                  have hKi := hP.out.hB i hin
                  obtain ⟨ib, hib⟩ : ∃ ib, ib = idS i := ⟨_, rfl⟩
                  have hI := hdi.idc (i := i) (by omega)
                  rw [← hib] at hI
                  have hz := Lib.hid (show ib.size ≤ 9223372036854775807 by rw [hib, idS_size]; decide)
                  obtain ⟨g1, cap1, hv1, q1⟩ := row_cell hdi.o1 hin
                  obtain ⟨g2, cap2, hv2, q2⟩ := row_cell hdi.o2 hin
                  cases hv1
                  cases hv2
                  by_cases hs : S i = t
                  · have hl := led_sent hP.out (H := 0) hnwt hnw0 ht1 hin hs
                    have hk1 : (K i == t) = false := by simp; omega
                    have hs1 : (S i == t) = true := by simp [hs]
                    rw [← hib] at hl
                    replace hl := Lib.hid hl
                    replace hib := Lib.hid hib
                    replace hI := Lib.hid hI
                    replace hs := Lib.hid hs
                    clear hdi q2
                    go_wp2_with (first
                      | (go_at_call 11; refine hI.out.mono ?_; rintro e w6 ⟨rfl, hd6⟩)
                      | (go_at_call 10; refine (hd6.sent hz.out hl.out).mono ?_; rintro e w7 ⟨rfl, hd7⟩; obtain ⟨_, _, hv2, q2⟩ := row_cell hd7.o2 hin; cases hv2))
                    exact ⟨⟨i + 1, t, by omega, by omega, by omega, by simp, hd7⟩, by simp [intOf]; omega⟩
                  · have hs1 : (S i == t) = false := by simp [hs]
                    by_cases hk : K i = t
                    · have hl := led_back hP.out (H := 0) hnwt hnw0 ht1 hin hk
                      have hk1 : (K i == t) = true := by simp [hk]
                      rw [← hib] at hl
                      replace hl := Lib.hid hl
                      replace hib := Lib.hid hib
                      replace hI := Lib.hid hI
                      replace hs := Lib.hid hs
                      replace hk := Lib.hid hk
                      clear hdi
                      go_wp2_with (first
                        | (go_at_call 11; refine hI.out.mono ?_; rintro e w6 ⟨rfl, hd6⟩)
                        | (go_at_call 12; refine (hd6.back hl.out).mono ?_; rintro e w7 ⟨rfl, hd7⟩))
                      exact ⟨⟨i + 1, t, by omega, by omega, by omega, by simp, hd7⟩, by simp [intOf]; omega⟩
                    · have hk1 : (K i == t) = false := by simp [hk]
                      rw [led_skip hP.out hs hk] at hdi
                      replace hdi := Lib.hid hdi
                      replace hs := Lib.hid hs
                      replace hk := Lib.hid hk
                      replace hib := Lib.hid hib
                      clear hI
                      go_wp2
                      exact ⟨⟨i + 1, nw, by omega, by omega, by omega, by simp, hdi.out⟩, by simp [intOf]; omega⟩
                · obtain rfl : i = k := by omega
                  have hl := led_late hP.out (H := 0) hnwt hnw0 ht1
                  rw [hlate.out t] at hl
                  have hA := hdi.alarm hl
                  rw [show decide ((led W D 0 i S K t i nw).H < ((0 : Nat) : Int)) = false from rfl] at hA
                  replace hA := Lib.hid hA
                  clear hl hdi
                  go_wp2_with (go_at_call 13; refine hA.out.mono ?_; rintro e w8 ⟨rfl, hd8⟩)
                  rw [led_next hP.out] at hd8
                  exact ⟨⟨t + 1, t, by omega, by omega, by omega, by simp, hd8⟩, by simp [intOf]; omega⟩
            · have hak := hacc.out k (by omega)
              have hen := led_end hP.out (H := 0) (t := t) (now := now) (i := 0) fun j hj => by
                have h1 := (acc_mono (fun k => (hgp1.out k).1) (show j + 1 ≤ k by omega))
                rw [hS.out]
                show acc gp (j + 1) ≤ _
                omega
              rw [hen] at hdt
              have hO := hdt.open (k := 0) rfl
              replace hO := Lib.hid hO
              replace hen := Lib.hid hen
              replace hdt := Lib.hid hdt
              go_wp2_with (go_at_call 14; refine hO.out.mono ?_; rintro e w8 ⟨rfl, hd8⟩)
              go_ret
              exact ⟨rfl, hd8.hb⟩)

theorem LoopsQuiet_walk (W : World) (p : Int) (hp : -9223372036854775808 ≤ p ∧ p ≤ 9223372036854775807) (q : Int) (hq : -9223372036854775808 ≤ q ∧ q ≤ 9223372036854775807) (r : Int) (_ : -9223372036854775808 ≤ r ∧ r ≤ 9223372036854775807)
    (a : Option Addr) (c : Nat) (ls : List (Int × Int)) (e : LoopA W a ls) (z : ∀ x ∈ ls, (-9223372036854775808 ≤ x.1 ∧ x.1 ≤ 9223372036854775807) ∧ (-9223372036854775808 ≤ x.2 ∧ x.2 ≤ 9223372036854775807)) (l : ls.length * 16 ≤ 140737488351232) :
    Calls Try.prog 3 #[.agg #[.int .i64 p, .int .i64 q, .int .i64 r], .slice a ls.length c] W fun e W' => e = .returned (.bool true) ∧ Below W.heap.size W W' :=
  quiet_walk W p q r hp hq a c ls e z (by omega)

end Go.Proofs.Ytikjcobdddjlbaa
