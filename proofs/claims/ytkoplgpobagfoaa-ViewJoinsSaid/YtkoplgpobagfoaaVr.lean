/-
  Layer 27: Rates of the document, walked. Printed by mkvz2.py out of Vz.
-/
import Derived.Test.YtkoplgpobagfoaaVz
namespace Go.Proofs.Ytkoplgpobagfoaa
open Go.RowKit
set_option linter.unusedVariables false
set_option linter.unusedSimpArgs false

set_option maxRecDepth 100000 in
set_option maxHeartbeats 6400000 in
theorem Rates_ref (w : World) (p : Option Addr) (c : Nat) (M : List Fr) (hM : FrSl w p c M) (f t wd : Int) :
    Calls Try.prog 28 #[.slice p M.length c, .int .i64 f, .int .i64 t, .int .i64 wd] w (RatesPost w (ratesR M f t wd)) := by
  obtain ⟨res, hres⟩ : ∃ x, x = ratesR M f t wd := ⟨_, rfl⟩
  rw [← hres]
  unfold ratesR at hres
  have hC := Check_ref w p c M hM
  obtain ⟨⟨q, e⟩, hq⟩ : ∃ y, y = chkR M := ⟨_, rfl⟩
  rw [← hq] at hres hC
  simp only [] at hres hC
  replace hC := Lib.hid hC
  by_cases he : e = 0
  · subst he
    rw [if_neg (by simp)] at hres
    have hmono := chkR_mono (L := M) (by rw [← hq])
    have hlen := (chkR_ok (L := M) (by rw [← hq])).1
    have hbad := (chkR_ok (L := M) (by rw [← hq])).2
    clear hq
    by_cases hw : wd < 1 ∨ 1048576 < wd
    · rw [if_pos hw] at hres
      subst hres
      clear hmono hbad hM
      by_cases hw1 : wd < 1
      · go_enter Try.func28, Try.ntmps28
        go_wp2_with (first | (go_at_call 22; refine hC.out.mono ?_; rintro r w1 ⟨rfl, t1⟩))
        go_ret2
        exact ⟨_, rfl, .inl ⟨rfl, rfl⟩, t1⟩
      · have hw2 : 1048576 < wd := by omega
        clear hw
        go_enter Try.func28, Try.ntmps28
        go_wp2_with (first | (go_at_call 22; refine hC.out.mono ?_; rintro r w1 ⟨rfl, t1⟩))
        go_ret2
        exact ⟨_, rfl, .inl ⟨rfl, rfl⟩, t1⟩
    · rw [if_neg hw] at hres
      have hw1 : ¬ wd < 1 := by omega
      have hw2 : ¬ 1048576 < wd := by omega
      clear hw
      by_cases h0 : M = []
      · rw [if_pos h0] at hres
        subst hres h0
        clear hmono hbad hM
        go_enter Try.func28, Try.ntmps28
        go_wp2_with (first | (go_at_call 22; refine hC.out.mono ?_; rintro r w1 ⟨rfl, t1⟩))
        go_ret2
        exact ⟨_, rfl, .inl ⟨rfl, rfl⟩, t1⟩
      · rw [if_neg h0] at hres
        have hpos : 0 < M.length := List.length_pos_iff.2 h0
        obtain ⟨m, hm⟩ : ∃ m, M.length = m + 1 := ⟨M.length - 1, by omega⟩
        obtain ⟨z, hz⟩ : ∃ z, z = M[m]'(by omega) := ⟨_, rfl⟩
        have hla : lastA M = z.a := by
          unfold lastA
          rw [List.getLast?_eq_getElem?, hm, show m + 1 - 1 = m by omega, List.getElem?_eq_getElem (by omega), hz]
        have hza := hmono z (by rw [hz]; exact List.getElem_mem _)
        have hzb := hbad z (by rw [hz]; exact List.getElem_mem _)
        have hza2 : z.a ≤ 2147483647 := by unfold bad at hzb; omega
        rw [hla] at hmono hres hza
        obtain ⟨d, hd⟩ : ∃ d : Nat, z.a / wd = (d : Int) := ⟨(z.a / wd).toNat, by rw [Int.toNat_of_nonneg (Int.ediv_nonneg hza.1 (by omega))]⟩
        rw [hd] at hres
        have hdt : z.a.tdiv wd = (d : Int) := by rw [Int.tdiv_eq_ediv_of_nonneg hza.1, hd]
        obtain ⟨g0, o0, hpe, hrz⟩ := hM.2 m (by omega)
        rw [← hz] at hrz
        obtain ⟨za, zf, zt, zl⟩ := z
        subst hpe
        simp only [] at hza hza2 hd hdt hmono
        replace hmono := Lib.hid hmono
        replace hM := Lib.hid hM
        replace hbad := Lib.hid hbad
        replace hz := Lib.hid hz
        have hd0 : (d : Int) ≤ 2147483647 := by
          have := Int.ediv_le_self wd hza.1
          omega
        have j1 : (m : Int) + 1 - 1 = (m : Int) := by omega
        have j2 : IntKind.i64.wrap (m : Int) = (m : Int) := wraps_i64 _ (by omega) (by omega)
        have j3 : (m : Int) < (m : Int) + 1 := by omega
        have j4 : (0 : Int) ≤ (m : Int) := by omega
        have j5 : ¬ wd = 0 := by omega
        have j6 : ((M.length : Int) == 0) = false := by simp; omega
        have j7 : (M.length : Int) = (m : Int) + 1 := by omega
        have hrz2 : ∀ w', Touch Nothing w w' → w'.cell? ⟨g0, o0 + m * 4, none⟩ = some (.int .i64 za) := fun w' t => t.cell (fr_cells hrz).1 (fun q => q)
        clear hrz hzb h0
        rw [hm] at hC ⊢
        replace hrz2 := Lib.hid hrz2
        replace hres := Lib.hid hres
        replace hm := Lib.hid hm
        clear j7 hpos hla
        go_enter Try.func28, Try.ntmps28
        go_upto_region 8 with (first | (go_at_call 22; refine hC.out.mono ?_; rintro r w1 ⟨rfl, t1⟩; have cz := hrz2.out w1 t1))
        by_cases hbig : 65536 < d + 1
        · have hr2 : res = ([], 2) := by rw [hres.out, if_pos (by omega)]
          subst hr2
          have hb2 : (65536 : Int) < (d : Int) + 1 := by omega
          clear hres
          go_wp2
          go_ret2
          exact ⟨_, rfl, .inl ⟨rfl, rfl⟩, t1⟩
        · have hr2 := hres.out
          rw [if_neg (by omega)] at hr2
          have hb2 : ¬ (65536 : Int) < (d : Int) + 1 := by omega
          have hdd : ((d : Int) + 1).toNat = d + 1 := by omega
          rw [hdd] at hr2
          replace hr2 := Lib.hid hr2
          clear hdd hres
          go_upto_region 11 with fail
          clear hb2
          replace hbig := Lib.hid hbig
          refine wp_region_list ?_
          refine l_value rfl (run_move (v := .int .i64 ((d : Int) + 1)) rfl rfl) ?_
          simp only [Act.put, List.setIfInBounds_toArray, List.set_cons_zero, List.set_cons_succ]
          refine l_value rfl (run_mk45 (z := (d : Int) + 1) (d + 1) rfl rfl rfl (by omega) (by have := hbig.out; omega)) ?_
          simp only [Act.put, List.setIfInBounds_toArray, List.set_cons_zero, List.set_cons_succ]
          refine l_value rfl (run_asgn (v := .slice (some ⟨w1.heap.size, 0, none⟩) (d + 1) (d + 1)) rfl rfl) ?_
          simp only [Act.put, List.setIfInBounds_toArray, List.set_cons_zero, List.set_cons_succ]
          refine wpList_nil ?_
          have hR0 : RowN (w1.alloc (.cells (intsV (List.replicate (d + 1) 0)).toArray 3)) w1.heap.size (List.replicate (d + 1) 0) := heap_new _ _
          have t2 := t1.alloc (.cells (intsV (List.replicate (d + 1) 0)).toArray 3)
          obtain ⟨gr, egr⟩ : ∃ g, g = w1.heap.size := ⟨_, rfl⟩
          have hgr : w.heap.size ≤ gr := by rw [egr]; exact t1.size
          obtain ⟨Z, eZ⟩ : ∃ Z, Z = List.replicate (d + 1) (0 : Int) := ⟨_, rfl⟩
          obtain ⟨W2, eW2⟩ : ∃ W, W = w1.alloc (.cells (intsV (List.replicate (d + 1) 0)).toArray 3) := ⟨_, rfl⟩
          rw [← eW2, ← egr, ← eZ] at hR0
          rw [← eW2] at t2
          rw [← eW2, ← egr]
          have hr3 : Hid (res = (rgo f t wd Z M, 0)) := Lib.hid (by rw [hr2.out, eZ])
          have hZl : Z.length = d + 1 := by rw [eZ, List.length_replicate]
          have hZb : ∀ m ∈ Z, 0 ≤ m ∧ m ≤ ((0 : Nat) : Int) := fun m hm2 => by
            rw [eZ] at hm2
            have := List.eq_of_mem_replicate hm2
            omega
          clear eW2 egr eZ hr2 t1 cz hrz2 hC
          replace hR0 := Lib.hid hR0
          replace hZb := Lib.hid hZb
          replace hZl := Lib.hid hZl
          clear j1 j2 j3 j4 j6
          have j6 : ((m : Int) + 1 == 0) = false := by simp; omega
          go_wp2
          simp only [j6]
          clear j6
          go_loopw [14] (fun iv wr => ∃ (i : Nat) (ns : List Int), i ≤ m + 1 ∧ iv = .int .i64 (i : Int) ∧ Hid (RowN wr gr ns ∧ ns.length = d + 1 ∧ rgo f t wd ns (M.drop i) = rgo f t wd Z M ∧ ∀ m ∈ ns, 0 ≤ m ∧ m ≤ (i : Int)) ∧ Touch Nothing w wr) (fun iv _ => m + 1 - (intOf iv).toNat)
          case atStart => exact ⟨0, Z, Nat.zero_le _, rfl, Lib.hid ⟨hR0.out, hZl.out, rfl, hZb.out⟩, t2⟩
          case round =>
            obtain ⟨i, ns, hi, rfl, hI, ht⟩ := hrel
            obtain ⟨hR, hnl, hG, hB⟩ := hI.out
            clear hR0 hZb hZl
            by_cases hltm : i < m + 1
            · have hlt : i < M.length := by rw [hm.out]; exact hltm
              obtain ⟨g, o, hpe, hr⟩ := (hM.out.keep ht (fun _ _ q => q)).2 i hlt
              cases hpe
              obtain ⟨x, hx⟩ : ∃ x, x = M[i] := ⟨_, rfl⟩
              have hxm : x ∈ M := by rw [hx]; exact List.getElem_mem _
              have hxa := hmono.out x hxm
              rw [← hx] at hr
              have hG2 : rgo f t wd (rstep f t wd ns x) (M.drop (i + 1)) = rgo f t wd Z M := by rw [← hG, List.drop_eq_getElem_cons hlt, ← hx]; rfl
              have hB2 := rgo_bnd (f := f) (t := t) (wd := wd) (x := x) hB
              have hl2 := (rstep_len f t wd ns x).trans hnl
              obtain ⟨xa, xf, xt, xl⟩ := x
              obtain ⟨c0, c1, c2, c3⟩ := fr_cells hr
              simp only [] at c0 c1 c2 c3 hxa
              obtain ⟨e, hee⟩ : ∃ e : Nat, xa / wd = (e : Int) := ⟨(xa / wd).toNat, by rw [Int.toNat_of_nonneg (Int.ediv_nonneg hxa.1 (by omega))]⟩
              have het : xa.tdiv wd = (e : Int) := by rw [Int.tdiv_eq_ediv_of_nonneg hxa.1, hee]
              have hed : e ≤ d := by
                have := Int.ediv_le_ediv (c := wd) (by omega) hxa.2
                rw [hd, hee] at this
                omega
              have hen : (xa / wd).toNat = e := by rw [hee]; rfl
              have hst : rstep f t wd ns ⟨xa, xf, xt, xl⟩ = if xf = f ∧ xt = t then ns.set e (ns.getD e 0 + 1) else ns := by unfold rstep; simp only []; rw [hen]
              have hee2 : e < ns.length := by omega
              have hvb := hB (ns.getD e 0) (by rw [List.getD_eq_getElem?_getD, List.getElem?_eq_getElem hee2]; exact List.getElem_mem _)
              obtain ⟨v0, hv0⟩ : ∃ v, v = ns.getD e 0 := ⟨_, rfl⟩
              rw [← hv0] at hst hvb
              have ce := hR.cell e hee2
              rw [← hv0] at ce
              have hi0 : (0 : Int) ≤ (i : Int) := by omega
              have he0 : (0 : Int) ≤ (e : Int) := by omega
              have hed1 : (e : Int) < (d : Int) + 1 := by omega
              have wv : IntKind.i64.wrap (v0 + 1) = v0 + 1 := wraps_i64 _ (by omega) (by omega)
              replace hR := Lib.hid hR
              replace hG2 := Lib.hid hG2
              replace hB2 := Lib.hid hB2
              replace hl2 := Lib.hid hl2
              replace hst := Lib.hid hst
              replace hv0 := Lib.hid hv0
              replace hx := Lib.hid hx
              replace hxm := Lib.hid hxm
              clear hr hI hB hG hnl hd hdt hen hvb
              by_cases hcf : xf = f
              · by_cases hct : xt = t
                · have hst2 := hst.out
                  rw [if_pos ⟨hcf, hct⟩] at hst2
                  replace hst2 := Lib.hid hst2
                  have fel := frz_blk (show wr.heap[gr]? = some (.cells (intsV ns).toArray 3 (0, 0)) from hR.out) e
                  subst hcf hct
                  clear hst
                  go_wp2
                  have hR3 := hR.out.set e (v0 + 1)
                  rw [← hst2.out] at hR3
                  have tt := ht.trans ((Touch.refl (fun b => b = gr) wr).setCell (p := ⟨gr, e, none⟩) (fun _ => rfl) (.int .i64 (v0 + 1))) (fun i hi q => by omega)
                  exact ⟨⟨i + 1, _, by omega, by simp, Lib.hid ⟨hR3, hl2.out, hG2.out, hB2.out⟩, tt⟩, by simp [intOf]; omega⟩
                · have hst2 := hst.out
                  rw [if_neg (fun q => hct q.2)] at hst2
                  replace hst2 := Lib.hid hst2
                  have hR3 := hR.out
                  rw [← hst2.out] at hR3
                  replace hR3 := Lib.hid hR3
                  clear hst
                  subst hcf
                  go_wp2
                  exact ⟨⟨i + 1, _, by omega, by simp, Lib.hid ⟨hR3.out, hl2.out, hG2.out, hB2.out⟩, ht⟩, by simp [intOf]; omega⟩
              · have hst2 := hst.out
                rw [if_neg (fun q => hcf q.1)] at hst2
                replace hst2 := Lib.hid hst2
                have hR3 := hR.out
                rw [← hst2.out] at hR3
                replace hR3 := Lib.hid hR3
                clear hst
                go_wp2
                exact ⟨⟨i + 1, _, by omega, by simp, Lib.hid ⟨hR3.out, hl2.out, hG2.out, hB2.out⟩, ht⟩, by simp [intOf]; omega⟩
            · obtain rfl : i = m + 1 := by omega
              rw [List.drop_of_length_le (by rw [hm.out]; exact Nat.le_refl _)] at hG
              have hfin : res = (ns, 0) := by rw [hr3.out, ← hG]; rfl
              subst hfin
              replace hR := Lib.hid (And.intro hR hnl)
              replace hB := Lib.hid hB
              clear hG hI hr3
              go_wp2
              go_ret2
              have hsv : Value.slice (some ⟨gr, 0, none⟩) (d + 1) (d + 1) = Value.slice (some ⟨gr, 0, none⟩) ns.length ns.length := by rw [hR.out.2]
              exact ⟨_, rfl, .inr ⟨gr, hsv, hR.out.1, hgr⟩, ht⟩
  · rw [if_pos he] at hres
    subst hres
    have e1 : (e == 0) = false := by simp [he]
    have e2 : (e != 0) = true := by simp [he]
    clear hq hM
    go_enter Try.func28, Try.ntmps28
    go_wp2_with (first | (go_at_call 22; refine hC.out.mono ?_; rintro r w1 ⟨rfl, t1⟩))
    go_ret2
    exact ⟨_, rfl, .inl ⟨rfl, rfl⟩, t1⟩

end Go.Proofs.Ytkoplgpobagfoaa
