/-
  Layer 27: the document's Links, walked.
-/
import Derived.Test.YtkoplgpobagfoaaRj
namespace Go.Proofs.Ytkoplgpobagfoaa
open Go.RowKit
set_option linter.unusedVariables false
set_option linter.unusedSimpArgs false

set_option maxRecDepth 100000 in
set_option maxHeartbeats 6400000 in
theorem Links_ref (w : World) (p : Option Addr) (c : Nat) (M : List Fr) (hM : FrSl w p c M) :
    Calls Try.prog 13 #[.slice p M.length c] w (LinksPost w (linksR M)) := by
  have hC := Check_ref w p c M hM
  by_cases he : (chkR M).2 = 0
  · rw [linksR_ok he, ← (links_same M).1]
    obtain ⟨hlen, hbad⟩ := chkR_ok he
    have hxb : ∀ x ∈ M, 0 ≤ x.l ∧ x.l ≤ 65536 := fun x hx => by have := hbad x hx; unfold bad at this; omega
    obtain ⟨⟨q, e⟩, hq⟩ : ∃ y, y = chkR M := ⟨_, rfl⟩
    rw [← hq] at hC he
    simp only [] at hC he
    subst he
    obtain ⟨n, hn⟩ : ∃ n, n = M.length := ⟨_, rfl⟩
    rw [← hn] at hC hlen ⊢
    replace hC := Lib.hid hC
    replace hM := Lib.hid hM
    replace hxb := Lib.hid hxb
    replace hn := Lib.hid hn
    clear hbad hq
    go_enter Try.func13, Try.ntmps13
    go_wp2_with (first | (go_at_call 22; refine hC.out.mono ?_; rintro r w1 ⟨rfl, t1⟩))
    go_loopw [6, 7] (fun ov iv wr => ∃ (i : Nat) (v : Value) (out : List Fr), i ≤ n ∧ ov = v ∧ iv = .int .i64 (i : Int) ∧ Hid (OwnK w wr v out ∧ out = (M.take i).foldl rl [] ∧ LBnd i out ∧ out.length ≤ i) ∧ Touch Nothing w wr) (fun _ iv _ => n - (intOf iv).toNat)
    case atStart => exact ⟨0, _, [], Nat.zero_le _, rfl, rfl, Lib.hid ⟨.inl ⟨rfl, rfl⟩, by simp, fun y hy => absurd hy List.not_mem_nil, Nat.le_refl _⟩, t1⟩
    case round =>
      obtain ⟨i, v, out, hi, rfl, rfl, hI, ht⟩ := hrel
      by_cases hlt : i < n
      · have hiM : i < M.length := by rw [← hn.out]; exact hlt
        obtain ⟨hO, hout, hB, hol⟩ := hI.out
        obtain ⟨g, o, rfl, hr⟩ := (hM.out.keep ht (fun _ _ q => q)).2 i hiM
        obtain ⟨x, hx⟩ : ∃ x, x = M[i] := ⟨_, rfl⟩
        rw [← hx] at hr
        have hxl := hxb.out x (by rw [hx]; exact List.getElem_mem _)
        have hfold : (M.take (i + 1)).foldl rl [] = rl out x := by rw [List.take_succ_eq_append_getElem hiM, List.foldl_append, ← hout, ← hx]; rfl
        obtain ⟨lp, hlp⟩ : ∃ k, k = lpos x out := ⟨_, rfl⟩
        have hll := lpos_le x out
        have hlow := lpos_low x out
        have hat := lpos_at x out
        have hpb := rput_bnd (x := x) hB
        have hpl := rput_len out x
        have hrl : rl out x = radd (rput out x) lp x := by rw [hlp]; rfl
        rw [← hlp] at hll hlow hat hpl
        obtain ⟨out1, hout1⟩ : ∃ o, o = rput out x := ⟨_, rfl⟩
        rw [← hout1] at hpb hpl hrl
        have hput : out1 = if isAt out lp x = true then out else out.take lp ++ ⟨x.f, x.t, 0, 0⟩ :: out.drop lp := by rw [hout1, hlp]; rfl
        rw [hrl] at hfold
        have hab := radd_bnd (k := lp) (x := x) hpb hxl
        obtain ⟨po, co, hv, hsl⟩ := hO.sl
        obtain ⟨m, hm⟩ : ∃ m, m = out.length := ⟨_, rfl⟩
        obtain ⟨xa, xf, xt, xl⟩ := x
        obtain ⟨c0, c1, c2, c3⟩ := fr_cells hr
        simp only [] at c0 c1 c2 c3 hxl hlow hat hput
        rw [← hm] at hv hll
        have i0 : (0 : Int) ≤ (i : Int) := by omega
        have i1 : (i : Int) < (n : Int) := by omega
        have i2 : IntKind.i64.wrap ((i : Int) + 1) = (i : Int) + 1 := by rw [IntKind.wrap_i64]; omega
        subst hv
        obtain ⟨g0, o0, e0, hr0⟩ := hM.out.2 i hiM
        cases e0
        rw [← hx] at hr0
        have c30 := (fr_cells hr0).2.2.2
        simp only [] at c30
        have hgw : g < w.heap.size := World.block_lt_of_cell? w ⟨g, o + i * 4 + 3, none⟩ c30
        have hM0 := True.intro
        replace c30 := Lib.hid c30
        replace hO := Lib.hid hO
        replace hB := Lib.hid hB
        replace hfold := Lib.hid hfold
        replace hput := Lib.hid hput
        replace hab := Lib.hid hab
        replace hpb := Lib.hid hpb
        replace hsl := Lib.hid hsl
        replace hlow := Lib.hid hlow
        replace hat := Lib.hid hat
        replace hx := Lib.hid hx
        replace hm := Lib.hid hm
        replace hlp := Lib.hid hlp
        replace hpl := Lib.hid hpl
        replace hol := Lib.hid hol
        replace hll := Lib.hid hll
        clear hI hout hout1 hrl hr
        go_wp2
        clear c0 c1 c2 c3
        go_loopw [8] (fun kv wr2 => ∃ k : Nat, k ≤ lp ∧ kv = .int .i64 (k : Int) ∧ Touch Nothing wr wr2) (fun kv _ => lp - (intOf kv).toNat)
        case atStart => exact ⟨0, Nat.zero_le _, rfl, Touch.refl _ _⟩
        case round =>
          obtain ⟨k, hk, rfl, ht2⟩ := hrel
          have k0 : (0 : Int) ≤ (k : Int) := by omega
          obtain ⟨W2, eW2⟩ : ∃ W, W = wr := ⟨_, rfl⟩
          rw [← eW2] at ht2 ⊢
          have htW := ht.trans' ht2
          have hsl2 := hsl.out.keep ht2 (fun _ _ q => q)
          have hO2 := Lib.hid (hO.out.keep ht2)
          have hr := (hM.out.keep htW (fun _ _ q => q)).2 i hiM
          obtain ⟨g', o', e', hr⟩ := hr
          cases e'
          rw [← hx.out] at hr
          obtain ⟨c0, c1, c2, c3⟩ := fr_cells hr
          simp only [] at c0 c1 c2 c3
          clear hr eW2 wr
          replace hsl2 := Lib.hid hsl2
          replace htW := Lib.hid htW
          obtain ⟨kb, hkb⟩ : ∃ b, b = decide (k < lp) := ⟨_, rfl⟩
          replace hkb := Lib.hid hkb
          go_upto_region 9 with fail
          go_cut [66] (fun v wx => v = .bool kb ∧ Touch Nothing W2 wx)
          case first =>
            by_cases hkm : k < m
            · have hko : k < out.length := by have := hm.out; omega
              have k1 : decide (k < m) = true := decide_eq_true hkm
              have k2 : (k : Int) < (m : Int) := by omega
              obtain ⟨g2, o2, e', hy⟩ := hsl2.out.2 k hko
              subst e'
              have hlw := hlow.out k
              have hatk := hat.out
              rw [List.getElem?_eq_getElem hko] at hlw
              obtain ⟨y, hye⟩ : ∃ y, y = out[k] := ⟨_, rfl⟩
              rw [← hye] at hlw hy
              have hatk2 : k = lp → ¬ (y.a < xf ∨ (y.a = xf ∧ y.f < xt)) := fun q => by
                subst q
                exact hatk y (by rw [hye, List.getElem?_eq_getElem hko])
              obtain ⟨ya, yf, yt, yl⟩ := y
              obtain ⟨d0, d1, d2, d3⟩ := fr_cells hy
              simp only [] at d0 d1 d2 d3 hatk2
              have hlw2 : k < lp → ya < xf ∨ (ya = xf ∧ yf < xt) := fun q => hlw q _ rfl
              replace hye := Lib.hid hye
              clear hlw hatk hy
              by_cases y1 : ya < xf
              · obtain rfl : kb = true := by
                  rw [hkb.out]
                  exact decide_eq_true (Decidable.byContradiction fun q => hatk2 (by omega) (.inl y1))
                have z1 : decide (ya < xf) = true := decide_eq_true y1
                clear hatk2 hlw2
                go_quiet (fail)
                go_wp2
                go_meet
                exact ⟨rfl, (Touch.refl _ _).drewN _⟩
              · have z1 : decide (ya < xf) = false := decide_eq_false y1
                by_cases y2 : ya = xf
                · subst y2
                  have z2 : (ya == ya) = true := by simp
                  by_cases y3 : yf < xt
                  · obtain rfl : kb = true := by
                      rw [hkb.out]
                      exact decide_eq_true (Decidable.byContradiction fun q => hatk2 (by omega) (.inr ⟨rfl, y3⟩))
                    have z3 : decide (yf < xt) = true := decide_eq_true y3
                    clear hatk2 hlw2 y1
                    go_quiet (fail)
                    go_wp2
                    go_meet
                    exact ⟨rfl, (Touch.refl _ _).drewN _⟩
                  · obtain rfl : kb = false := by
                      rw [hkb.out]
                      exact decide_eq_false fun q => by have := hlw2 q; omega
                    have z3 : decide (yf < xt) = false := decide_eq_false y3
                    clear hatk2 hlw2 y1
                    go_quiet (fail)
                    go_wp2
                    go_meet
                    exact ⟨rfl, (Touch.refl _ _).drewN _⟩
                · obtain rfl : kb = false := by
                    rw [hkb.out]
                    exact decide_eq_false fun q => by have := hlw2 q; omega
                  have z2 : (ya == xf) = false := by simp [y2]
                  clear hatk2 hlw2
                  go_quiet (fail)
                  go_wp2
                  go_meet
                  exact ⟨rfl, (Touch.refl _ _).drewN _⟩
            · have k1 : decide (k < m) = false := decide_eq_false hkm
              have k2 : ¬ (k : Int) < (m : Int) := by omega
              obtain rfl : kb = false := by rw [hkb.out]; exact decide_eq_false (by have := hll.out; omega)
              go_quiet (fail)
              go_wp2
              go_meet
              exact ⟨rfl, (Touch.refl _ _).drewN _⟩
          case rest =>
          obtain ⟨rfl, tx⟩ := hcut
          obtain ⟨W3, eW3⟩ : ∃ W, W = wc := ⟨_, rfl⟩
          rw [← eW3] at tx ⊢
          clear eW3 wc
          have ht3 := ht2.trans' tx
          have htW3 := Lib.hid (htW.out.trans' tx)
          have hsl3 := Lib.hid (hsl2.out.keep tx (fun _ _ q => q))
          have hO3 := Lib.hid (hO2.out.keep tx)
          have d0 := tx.cell c0 (fun q => q)
          have d1 := tx.cell c1 (fun q => q)
          have d2 := tx.cell c2 (fun q => q)
          have d3 := tx.cell c3 (fun q => q)
          clear c0 c1 c2 c3 ht2 htW hsl2 hO2 tx
          cases kb
          · obtain rfl : k = lp := by have := of_decide_eq_false hkb.out.symm; omega
            obtain ⟨nb, hnb⟩ : ∃ b, b = !isAt out k ⟨xa, xf, xt, xl⟩ := ⟨_, rfl⟩
            replace hnb := Lib.hid hnb
            clear hkb hlow hat hsl hO
            go_upto_region 11 with fail
            go_cut [98] (fun v wx => v = .bool nb ∧ Touch Nothing W3 wx)
            case first =>
              by_cases hkm : k = m
              · subst hkm
                have k1 : ((k : Int) == (k : Int)) = true := by simp
                have k2 : (k == k) = true := by simp
                obtain rfl : nb = true := by
                  rw [hnb.out]
                  unfold isAt
                  rw [List.getElem?_eq_none (by have := hm.out; omega)]
                  rfl
                go_quiet (fail)
                go_wp2
                go_meet
                exact ⟨rfl, (Touch.refl _ _).drewN _⟩
              · have hkl : k < m := by have := hll.out; omega
                have hko : k < out.length := by have := hm.out; omega
                have k1 : ((k : Int) == (m : Int)) = false := by simp; omega
                have k2 : (k == m) = false := by simp; omega
                have k3 : (k : Int) < (m : Int) := by omega
                obtain ⟨g2, o2, e', hy⟩ := hsl3.out.2 k hko
                subst e'
                obtain ⟨y, hye⟩ : ∃ y, y = out[k] := ⟨_, rfl⟩
                rw [← hye] at hy
                have hat2 : isAt out k ⟨xa, xf, xt, xl⟩ = decide (y.a = xf ∧ y.f = xt) := by
                  unfold isAt
                  rw [List.getElem?_eq_getElem hko, ← hye]
                rw [hat2] at hnb
                obtain ⟨ya, yf, yt, yl⟩ := y
                obtain ⟨e0, e1, e2, e3⟩ := fr_cells hy
                simp only [] at e0 e1 e2 e3 hnb
                replace hye := Lib.hid hye
                clear hy hat2 hkm
                by_cases y1 : ya = xf
                · subst y1
                  have z1 : (ya != ya) = false := by simp
                  by_cases y2 : yf = xt
                  · subst y2
                    have z2 : (yf != yf) = false := by simp
                    obtain rfl : nb = false := by rw [hnb.out]; simp
                    go_quiet (fail)
                    go_wp2
                    go_meet
                    exact ⟨rfl, (Touch.refl _ _).drewN _⟩
                  · have z2 : (yf != xt) = true := by simp [y2]
                    obtain rfl : nb = true := by rw [hnb.out]; simp [y2]
                    go_quiet (fail)
                    go_wp2
                    go_meet
                    exact ⟨rfl, (Touch.refl _ _).drewN _⟩
                · have z1 : (ya != xf) = true := by simp [y1]
                  obtain rfl : nb = true := by rw [hnb.out]; simp [y1]
                  go_quiet (fail)
                  go_wp2
                  go_meet
                  exact ⟨rfl, (Touch.refl _ _).drewN _⟩
            case rest =>
            obtain ⟨rfl, tx⟩ := hcut
            obtain ⟨W4, eW4⟩ : ∃ W, W = wc := ⟨_, rfl⟩
            rw [← eW4] at tx ⊢
            clear eW4 wc
            have htW4 := htW3.out.trans' tx
            have hO4 := hO3.out.keep tx
            have c1 := tx.cell d1 (fun q => q)
            have c2 := tx.cell d2 (fun q => q)
            have c3 := tx.cell d3 (fun q => q)
            clear d0 d1 d2 d3 ht3 htW3 hsl3 hO3 tx
            apply_assumption
            refine lk_put w W4 g o n c i k m co po nb out out1 ⟨xa, xf, xt, xl⟩ hO4 htW4 hm.out (by have := hm.out; have := hol.out; omega) hlt hll.out c1 c2 hgw hnb.out hput.out (fun _ _ _ d _ h => by cases d <;> exact h) ?_
            intro v5 W5 y9 y99 y100 y101 y102 y103 y104 y105 y106 y107 y108 y109 y110 y111 y112 y113 y114 y115 y116 y117 y118 y119 y120 y121 y122 hO5 t5
            have hpl2 := hpl.out
            rcases hO5 with ⟨_, h5⟩ | ⟨gk, ck, rfl, hR5, hgk, hlc, hmx⟩
            · rw [h5] at hpl2
              simp at hpl2
            have c3b := t5.cell c30.out (fun q => q)
            have hB5 := hpb.out
            clear c1 c2 c3 hO4 htW4 hnb hput hB hM0
            apply_assumption
            refine lk_add w W5 g o n c i k out1.length ck gk out1 ⟨xa, xf, xt, xl⟩ hR5 t5 hgk hlc hmx rfl (by have := hol.out; omega) hlt hlen hpl2.2 c3b hgw hB5 hxl ?_
            intro W6 x123 x124 x125 x126 x127 x128 x129 x130 x131 x132 x133 x134 x135 x136 x137 x138 x139 x140 x141 x142 x143 hO6 t6
            have hl6 : (radd out1 k ⟨xa, xf, xt, xl⟩).length ≤ i + 1 := by
              rw [radd_at out1 k _ hpl2.2, List.length_set]
              have := hol.out
              omega
            have hh := Lib.hid (And.intro hO6 (And.intro hfold.out.symm (And.intro hab.out (And.intro hl6 t6))))
            clear hO6 t6 hl6 t5 hR5 hpl2 c3b hB5 hfold hab hpb hpl
            go_wp2
            exact ⟨⟨i + 1, _, radd out1 k ⟨xa, xf, xt, xl⟩, by omega, rfl, by simp, Lib.hid ⟨hh.out.1, hh.out.2.1, hh.out.2.2.1, hh.out.2.2.2.1⟩, hh.out.2.2.2.2⟩, by simp [intOf]; omega⟩
          · have hk1 : k + 1 ≤ lp := of_decide_eq_true hkb.out.symm
            have hkw : IntKind.i64.wrap ((k : Int) + 1) = (k : Int) + 1 := by rw [IntKind.wrap_i64]; have := hll.out; have := hm.out; have := hol.out; omega
            clear hkb
            go_wp2
            exact ⟨⟨k + 1, hk1, by simp, ht3⟩, by simp [intOf]; omega⟩
      · have hin : i = n := by omega
        subst hin
        obtain ⟨hO, hout, _, _⟩ := hI.out
        rw [hn.out, List.take_length] at hout
        rw [hout] at hO
        have hh := Lib.hid (And.intro hO ht)
        have i1 : ¬ (i : Int) < (i : Int) := by omega
        clear hI hO hout ht
        go_wp2
        go_ret2
        exact ⟨_, rfl, hh.out.1, hh.out.2⟩
  · rw [linksR_bad he]
    obtain ⟨⟨q, e⟩, hq⟩ : ∃ y, y = chkR M := ⟨_, rfl⟩
    rw [← hq] at hC he ⊢
    simp only [] at hC he ⊢
    have e1 : (e == 0) = false := by simp [he]
    have e2 : (e != 0) = true := by simp [he]
    replace hC := Lib.hid hC
    clear hq hM
    go_enter Try.func13, Try.ntmps13
    go_wp2_with (first | (go_at_call 22; refine hC.out.mono ?_; rintro r w1 ⟨rfl, t1⟩))
    go_ret2
    exact ⟨_, rfl, .inl ⟨rfl, rfl⟩, t1⟩

end Go.Proofs.Ytkoplgpobagfoaa
