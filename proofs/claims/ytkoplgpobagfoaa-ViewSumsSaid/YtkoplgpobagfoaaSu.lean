/-
  Layer 27: the law ViewSums, walked.
-/
import Derived.Test.YtkoplgpobagfoaaLq
import Derived.Test.YtkoplgpobagfoaaWk
import Derived.Test.YtkoplgpobagfoaaLc
namespace Go.Proofs.Ytkoplgpobagfoaa
open Go.RowKit
set_option linter.unusedVariables false
set_option linter.unusedSimpArgs false

theorem width_facts (wd0 : Int) : ∃ wd U R : Int, 1 ≤ wd ∧ wd ≤ 1000 ∧ 1 + R = wd ∧ IntKind.u64.wrap wd0 = U ∧ U.tmod 1000 = R ∧ IntKind.u64.wrap R = R ∧ IntKind.i64.wrap R = R ∧ IntKind.i64.wrap wd = wd := by
  have h0 : 0 ≤ IntKind.u64.wrap wd0 := by rw [IntKind.wrap_u64]; omega
  have h1 := Int.tmod_eq_emod_of_nonneg h0 (b := 1000)
  refine ⟨1 + (IntKind.u64.wrap wd0).tmod 1000, _, _, by omega, by omega, rfl, rfl, rfl, ?_, wraps_i64 _ (by omega) (by omega), wraps_i64 _ (by omega) (by omega)⟩
  rw [IntKind.wrap_u64 ((IntKind.u64.wrap wd0).tmod 1000)]
  omega

set_option maxRecDepth 100000 in
set_option maxHeartbeats 3200000 in
theorem viewSums_bad (w : World) (p : Option Addr) (c : Nat) (L : List Fr) (h : FrA w (.slice p L.length c) L) (wd0 : Int) (he : (chkR L).2 ≠ 0) :
    Calls Try.prog 7 #[.slice p L.length c, .int .i64 wd0] w fun r w' => r = .returned (.bool true) ∧ Touch Nothing w w' := by
  have hfa : ∀ w', Touch Nothing w w' → FrA w' (.slice p L.length c) L := fun w' ht => h.keep ht (fun _ _ _ _ _ q => q)
  have hfs : ∀ w', Touch Nothing w w' → FrSl w' p c L := fun w' ht => by
    obtain ⟨p', c', e, hs⟩ := (hfa w' ht).sl
    cases e
    exact hs
  have hLk : ∀ w', Touch Nothing w w' → Calls Try.prog 12 #[.slice p L.length c] w' fun r w2 => (∃ p1 c1, r = .returned (.tuple #[.slice p1 0 c1, .int .i64 (chkR L).2])) ∧ Touch Nothing w' w2 := fun w' ht => by
    refine (Links_all w' _ L (hfa w' ht)).mono ?_
    rw [linksR_bad he]
    rintro r w2 ⟨v, h1, h2, h3⟩
    obtain ⟨p1, c1, rfl, _⟩ := h2.sl
    exact ⟨⟨p1, c1, h1⟩, h3⟩
  have hCh := fun w' (ht : Touch Nothing w w') => Check_any w' p c L (hfs w' ht)
  have hW := Lib.hid (fun w => works_any w)
  obtain ⟨wd, U, R, hwd1, hwd2, hwd3, v1, v2, v3, v4, v5⟩ := width_facts wd0
  obtain ⟨⟨q, e⟩, hq⟩ : ∃ y, y = chkR L := ⟨_, rfl⟩
  rw [← hq] at hCh hLk he
  simp only [] at hCh hLk he
  have e1 : (e == 0) = false := by simp [he]
  have e2 : (e != 0) = true := by simp [he]
  have e3 : (e == e) = true := by simp
  replace hLk := Lib.hid hLk
  replace hCh := Lib.hid hCh
  clear hfa hfs h hq
  go_enter Try.func7, Try.ntmps7
  go_wp2_with (first
    | (go_at_call 17; refine (hW.out _).mono ?_; rintro r w1 ⟨rfl, t1⟩)
    | (go_at_call 12; refine (hLk.out _ t1).mono ?_; rintro r w2 ⟨⟨p1, c1, rfl⟩, t2⟩; replace t2 := t1.trans' t2)
    | (go_at_call 21; refine (hCh.out _ t2).mono ?_; rintro r w3 ⟨rfl, t3⟩; replace t3 := t2.trans' t3))
  go_ret
  exact ⟨rfl, t3⟩

set_option maxRecDepth 100000 in
set_option maxHeartbeats 6400000 in
theorem viewSums_good (w : World) (p : Option Addr) (c : Nat) (L : List Fr) (h : FrA w (.slice p L.length c) L) (wd0 : Int) (he : (chkR L).2 = 0) :
    Calls Try.prog 7 #[.slice p L.length c, .int .i64 wd0] w fun r w' => r = .returned (.bool true) ∧ Touch Nothing w w' := by
  have hfa : ∀ w', Touch Nothing w w' → FrA w' (.slice p L.length c) L := fun w' ht => h.keep ht (fun _ _ _ _ _ q => q)
  have hfs : ∀ w', Touch Nothing w w' → FrSl w' p c L := fun w' ht => by
    obtain ⟨p', c', e, hs⟩ := (hfa w' ht).sl
    cases e
    exact hs
  obtain ⟨K, hK⟩ : ∃ K, K = linksK L := ⟨_, rfl⟩
  have hSm := sums_of he
  rw [← hK] at hSm
  obtain ⟨kn, hkn⟩ : ∃ n, n = K.length := ⟨_, rfl⟩
  have hLk : ∀ w', Touch Nothing w w' → Calls Try.prog 12 #[.slice p L.length c] w' fun r w2 => (∃ p1 c1, r = .returned (.tuple #[.slice p1 kn c1, .int .i64 0]) ∧ FrSl w2 p1 c1 K) ∧ Touch Nothing w' w2 := fun w' ht => by
    refine (Links_all w' _ L (hfa w' ht)).mono ?_
    rw [linksR_ok he, ← hK]
    rintro r w2 ⟨v, h1, h2, h3⟩
    obtain ⟨p1, c1, rfl, hs⟩ := h2.sl
    rw [← hkn] at h1
    exact ⟨⟨p1, c1, h1, hs⟩, h3⟩
  have hCh := fun w' (ht : Touch Nothing w w') => Check_any w' p c L (hfs w' ht)
  have hRt : ∀ w' (ht : Touch Nothing w w') f t wd, Calls Try.prog 27 #[.slice p L.length c, .int .i64 f, .int .i64 t, .int .i64 wd] w' (RatesPost w' (ratesR L f t wd)) := fun w' ht f t wd => Rates_any w' p c L (hfs w' ht) f t wd
  have hBt : ∀ w', Touch Nothing w w' → Calls Try.prog 25 #[.slice p L.length c, .int .i64 0, .int .i64 2147483647] w' fun r w2 => (∃ p1 c1, r = .returned (.tuple #[.slice p1 L.length c1, .int .i64 0]) ∧ FrSl w2 p1 c1 L) ∧ Touch Nothing w' w2 := fun w' ht => by
    refine (Between_any w' _ L (hfa w' ht) 0 2147483647).mono ?_
    have hb : betR L 0 2147483647 = (L, 0) := by unfold betR; rw [if_neg (by rw [he]; simp), if_neg (by omega), hSm.all]
    rw [hb]
    rintro r w2 ⟨v, h1, h2, h3⟩
    obtain ⟨p1, c1, rfl, hs⟩ := h2.sl
    exact ⟨⟨p1, c1, h1, hs⟩, h3⟩
  have hlen := (chkR_ok he).1
  have hS := fun w' p1 c1 (ht : Touch Nothing w w') (hs : FrSl w' p1 c1 L) => same_any w' p1 p c1 c L L hs (hfs w' ht) (by omega) true (by simp)
  have hW := Lib.hid (fun w => works_any w)
  obtain ⟨wd, U, R, hwd1, hwd2, hwd3, v1, v2, v3, v4, v5⟩ := width_facts wd0
  obtain ⟨⟨q, e⟩, hq⟩ : ∃ y, y = chkR L := ⟨_, rfl⟩
  rw [← hq] at hCh
  rw [← hq] at he
  simp only [] at hCh he
  subst he
  have hrc : K ≠ [] → _ := fun q => rates_cases (L := L) (by rw [← hq]) (hSm.kn q) hwd1 (by omega : wd ≤ 1048576)
  obtain ⟨n, hn⟩ : ∃ n, n = L.length := ⟨_, rfl⟩
  rw [← hn] at hLk hCh hRt hBt hlen hS ⊢
  replace hLk := Lib.hid hLk
  replace hCh := Lib.hid hCh
  replace hRt := Lib.hid hRt
  replace hBt := Lib.hid hBt
  replace hS := Lib.hid hS
  replace hSm := Lib.hid hSm
  replace hrc := Lib.hid hrc
  replace hfs := Lib.hid hfs
  replace hkn := Lib.hid hkn
  replace hn := Lib.hid hn
  clear hfa h hq hK
  by_cases hbig : 300 < n
  · have hb1 : (300 : Int) < (n : Int) := by omega
    go_enter Try.func7, Try.ntmps7
    go_wp2_with (first
      | (go_at_call 17; refine (hW.out _).mono ?_; rintro r w1 ⟨rfl, t1⟩)
      | (go_at_call 12; refine (hLk.out _ t1).mono ?_; rintro r w2 ⟨⟨p1, c1, rfl, hs1⟩, t2⟩; replace t2 := t1.trans' t2; replace hs1 := Lib.hid hs1)
      | (go_at_call 21; refine (hCh.out _ t2).mono ?_; rintro r w3 ⟨rfl, t3⟩; replace t3 := t2.trans' t3))
    go_ret
    exact ⟨rfl, t3⟩
  have hb1 : ¬ (300 : Int) < (n : Int) := by omega
  go_enter Try.func7, Try.ntmps7
  go_wp2_with (first
    | (go_at_call 17; refine (hW.out _).mono ?_; rintro r w1 ⟨rfl, t1⟩)
    | (go_at_call 12; refine (hLk.out _ t1).mono ?_; rintro r w2 ⟨⟨p1, c1, rfl, hs1⟩, t2⟩; replace hs1 := Lib.hid hs1; replace t2 := Lib.hid t2)
    | (go_at_call 21; refine (hCh.out _ (t1.trans' t2.out)).mono ?_; rintro r w3 ⟨rfl, t3⟩; replace hs1 := Lib.hid (hs1.out.keep t3 (fun _ _ q => q)); replace t3 := (t1.trans' t2.out).trans' t3; clear t2 t1))
  clear v1 v2 v3 v4 v5 hLk hCh hwd3
  go_loopw [9, 10, 11, 61] (fun mv bv av iv wr => ∃ (i : Nat) (m b s : Int), i ≤ kn ∧ mv = .int .i64 m ∧ bv = .int .i64 b ∧ av = .int .i64 s ∧ iv = .int .i64 (i : Int) ∧ Hid (m = sumT (K.take i) ∧ b = sumL (K.take i) ∧ s = sumT (K.take i)) ∧ Touch Nothing w3 wr) (fun _ _ _ iv _ => kn - (intOf iv).toNat)
  case atStart => exact ⟨0, 0, 0, 0, Nat.zero_le _, rfl, rfl, rfl, rfl, Lib.hid ⟨rfl, rfl, rfl⟩, Touch.refl _ _⟩
  case round =>
    obtain ⟨i, m, b, s, hi, rfl, rfl, rfl, rfl, hI, ht⟩ := hrel
    by_cases hlt : i < kn
    · have hiK : i < K.length := by rw [← hkn.out]; exact hlt
      obtain ⟨g, o, rfl, hr⟩ := (hs1.out.keep ht (fun _ _ q => q)).2 i hiK
      obtain ⟨y, hy⟩ : ∃ y, y = K[i] := ⟨_, rfl⟩
      rw [← hy] at hr
      have hyc := hSm.out.c y (by rw [hy]; exact List.getElem_mem _)
      have hT := sumT_snoc K i hiK
      have hLs := sumL_snoc K i hiK
      rw [← hy] at hT hLs
      have b1 := sumT_le K i hSm.out.t0
      have b2 := sumT_le K (i + 1) hSm.out.t0
      have b3 := sumL_le K i hSm.out.l0
      have b4 := sumL_le K (i + 1) hSm.out.l0
      have b5 := sumL_bnd 65536 L (fun x hx => (hSm.out.x0 x hx).2)
      have b6 := hSm.out.sT
      have b7 := hSm.out.sL
      rw [← hn.out] at b5 b6
      have hup : ∀ j (hj : j < i), keyLt (K[j]'(by omega)) y := fun j hj => by rw [hy]; exact List.pairwise_iff_getElem.1 hSm.out.up j i (by omega) hiK hj
      obtain ⟨ya, yf, yt, yl⟩ := y
      simp only [] at hyc hT hLs
      obtain ⟨c0, c1, c2, c3⟩ := fr_cells hr
      simp only [] at c0 c1 c2 c3
      obtain ⟨e1, e2, e3⟩ := hI.out
      obtain ⟨m2, hm2⟩ : ∃ z, z = m + yt := ⟨_, rfl⟩
      obtain ⟨bb, hbb⟩ : ∃ z, z = b + yl := ⟨_, rfl⟩
      have m3 : IntKind.i64.wrap m2 = m2 := wraps_i64 _ (by omega) (by omega)
      have b8 : IntKind.i64.wrap bb = bb := wraps_i64 _ (by omega) (by omega)
      have hs0 : 0 ≤ s ∧ s ≤ 300 := by omega
      have hfin : Hid (m2 = sumT (K.take (i + 1)) ∧ bb = sumL (K.take (i + 1)) ∧ s + yt = sumT (K.take (i + 1))) := Lib.hid ⟨by omega, by omega, by omega⟩
      have hi1 : IntKind.i64.wrap ((i : Int) + 1) = (i : Int) + 1 := by
        have := hSm.out.kl
        have := hn.out
        rw [IntKind.wrap_i64]
        omega
      replace hm2 := Lib.hid hm2
      replace hbb := Lib.hid hbb
      have h9 := heap_new wr (.cells #[.int .i64 ya, .int .i64 yf, .int .i64 yt, .int .i64 yl] 29)
      have ta := (Touch.refl Nothing wr).alloc (.cells #[.int .i64 ya, .int .i64 yf, .int .i64 yt, .int .i64 yl] 29)
      have ht9 := ht.trans' ta
      obtain ⟨W9, eW9⟩ : ∃ W, W = wr.alloc (.cells #[.int .i64 ya, .int .i64 yf, .int .i64 yt, .int .i64 yl] 29) := ⟨_, rfl⟩
      obtain ⟨g9, eg9⟩ : ∃ g, g = wr.heap.size := ⟨_, rfl⟩
      rw [← eW9, ← eg9] at h9
      rw [← eW9] at ht9
      replace hT := Lib.hid hT
      replace hLs := Lib.hid hLs
      clear ta b1 b2 b3 b4 b5 b6 b7 e1 e2 e3
      replace hyc := Lib.hid hyc
      replace hup := Lib.hid hup
      replace hs0 := Lib.hid hs0
      go_upto_region 14 with fail
      rw [← eW9, ← eg9]
      clear c0 c1 c2 c3 hr
      have k0 := cell_blk h9 0
      have k1 := cell_blk h9 1
      have k2 := cell_blk h9 2
      have k3 := cell_blk h9 3
      replace h9 := Lib.hid h9
      replace ht9 := Lib.hid ht9
      replace eW9 := Lib.hid eW9
      replace eg9 := Lib.hid eg9
      go_cut [100] (fun v wx => v = .bool false ∧ wx.heap[g9]? = some (.cells #[.int .i64 ya, .int .i64 yf, .int .i64 yt, .int .i64 yl] 29) ∧ Touch Nothing w3 wx)
      case first =>
        have fin : ∀ N, (W9.drewN N).heap[g9]? = some (.cells #[.int .i64 ya, .int .i64 yf, .int .i64 yt, .int .i64 yl] 29) := fun N => h9.out
        replace fin := Lib.hid fin
        by_cases hi0 : i = 0
        · subst hi0
          have z1 : ¬ (0 : Int) < 0 := by omega
          go_quiet (fail)
          go_wp2
          go_meet
          exact ⟨rfl, fin.out _, ht9.out.drewN _⟩
        · obtain ⟨j, hj⟩ : ∃ j, i = j + 1 := ⟨i - 1, by omega⟩
          have z1 : decide (0 < i) = true := decide_eq_true (by omega)
          have z2 : IntKind.i64.wrap ((i : Int) - 1) = (j : Int) := by rw [IntKind.wrap_i64]; have := hSm.out.kl; have := hn.out; have := hkn.out; omega
          have z4 : (0 : Int) ≤ (j : Int) := by omega
          have z5 : (j : Int) < (kn : Int) := by omega
          have hjK : j < K.length := by omega
          obtain ⟨g', o', e', hr'⟩ := (hs1.out.keep ht9.out (fun _ _ q => q)).2 j hjK
          cases e'
          have hk : keyLt K[j] ⟨ya, yf, yt, yl⟩ := hup.out j (by omega)
          obtain ⟨⟨xa, xf, xt, xl⟩, hx⟩ : ∃ x, x = K[j] := ⟨_, rfl⟩
          rw [← hx] at hk hr'
          obtain ⟨d0, d1, d2, d3⟩ := fr_cells hr'
          simp only [] at d0 d1 d2 d3
          unfold keyLt at hk
          simp only [] at hk
          replace hj := Lib.hid hj
          replace hx := Lib.hid hx
          clear hr' hi0 hup
          by_cases hlt2 : xa < ya
          · have y1 : decide (ya < xa) = false := decide_eq_false (by omega)
            have y2 : ¬ ya = xa := by omega
            have y3 : (ya == xa) = false := by simp [y2]
            clear hk
            go_quiet (fail)
            go_wp2
            go_meet
            exact ⟨rfl, fin.out _, ht9.out.drewN _⟩
          · obtain ⟨rfl, hlt3⟩ : xa = ya ∧ xf < yf := by omega
            have y3 : (xa == xa) = true := by simp
            have y4 : decide (yf ≤ xf) = false := decide_eq_false (by omega)
            clear hk hlt2
            go_quiet (fail)
            go_wp2
            go_meet
            exact ⟨rfl, fin.out _, ht9.out.drewN _⟩
      case rest =>
      obtain ⟨rfl, h8, ht8⟩ := hcut
      obtain ⟨W8, eW8⟩ : ∃ W, W = wc := ⟨_, rfl⟩
      rw [← eW8] at h8 ht8 ⊢
      clear eW8 wc k0 k1 k2 k3 h9 ht9 eW9 eg9 ht hup W9
      have k0 := cell_blk h8 0
      have k1 := cell_blk h8 1
      have k2 := cell_blk h8 2
      have k3 := cell_blk h8 3
      have hne : K ≠ [] := fun q => by rw [q] at hiK; simp at hiK
      have htw := t3.trans' ht8
      replace ht8 := Lib.hid ht8
      have m4 : m + yt = m2 := hm2.out.symm
      have b9 : b + yl = bb := hbb.out.symm
      rcases hrc.out hne with hE | hN
      · have hR := hRt.out W8 htw ya yf wd
        rw [hE ya yf] at hR
        unfold RatesPost at hR
        simp only [] at hR
        replace hR := Lib.hid hR
        clear hE h8
        go_wp2_with (first
          | (go_at_call 27; refine hR.out.mono ?_; rintro r w5 ⟨v5, rfl, _, t5⟩))
        go_ret
        exact ⟨rfl, htw.trans' t5⟩
      · obtain ⟨N, e1, e2, e3, e4⟩ := hN ya yf
        obtain ⟨nn, hnn⟩ : ∃ z, z = N.length := ⟨_, rfl⟩
        have hR : Calls Try.prog 27 #[.slice p n c, .int .i64 ya, .int .i64 yf, .int .i64 wd] W8 fun r w2 => (∃ p2 c2, r = .returned (.tuple #[.slice p2 nn c2, .int .i64 0]) ∧ InSl w2 p2 N) ∧ Touch Nothing W8 w2 := by
          have := hRt.out W8 htw ya yf wd
          rw [e1] at this
          refine this.mono ?_
          rintro r w2 ⟨v, h1, h2, h3⟩
          obtain ⟨p2, c2, rfl, hi⟩ := rates_sl h2
          rw [← hnn] at h1
          exact ⟨⟨p2, c2, h1, hi⟩, h3⟩
        rw [hyc.out] at e2
        rw [← hnn] at e4
        replace hR := Lib.hid hR
        replace e2 := Lib.hid e2
        replace e3 := Lib.hid e3
        replace hnn := Lib.hid hnn
        replace htw := Lib.hid htw
        clear hN h8 e1
        go_wp2_with (first
          | (go_at_call 27; refine hR.out.mono ?_; rintro r w5 ⟨⟨p2, c2, rfl, hi2⟩, t5⟩; replace hi2 := Lib.hid hi2))
        have ht5 := ht8.out.trans' t5
        clear k0 k1 k2 k3 hR t5 m4 b9 ht8
        go_loopw [11, 125] (fun av iv wr2 => ∃ (j : Nat) (s2 : Int), j ≤ nn ∧ av = .int .i64 s2 ∧ iv = .int .i64 (j : Int) ∧ Hid (s2 = s + (N.take j).sum) ∧ Touch Nothing w5 wr2) (fun _ iv _ => nn - (intOf iv).toNat)
        case atStart => exact ⟨0, s, Nat.zero_le _, rfl, rfl, Lib.hid (by simp), Touch.refl _ _⟩
        case round =>
          obtain ⟨j, s2, hj, rfl, rfl, hs2, ht2⟩ := hrel
          by_cases hltn : j < nn
          · have hjN : j < N.length := by rw [← hnn.out]; exact hltn
            obtain ⟨g2, o2, e', hc2⟩ := (hi2.out.keep ht2 (fun _ _ q => q)) j hjN
            subst e'
            have hsn := sum_snoc N j hjN
            have q1 := sum_take_le N j e3.out
            have q2 := sum_take_le N (j + 1) e3.out
            have q3 := hfin.out.2.2
            have q4 := (sumT_le K (i + 1) hSm.out.t0).2
            have q5 := hSm.out.sT
            have q6 := hn.out
            obtain ⟨x, hx⟩ : ∃ x, x = N[j] := ⟨_, rfl⟩
            rw [← hx] at hc2 hsn
            have q7 := e2.out
            have q8 := hs0.out
            have q9 := hs2.out
            obtain ⟨s3, hs3⟩ : ∃ z, z = s2 + x := ⟨_, rfl⟩
            have r1 : s2 + x = s3 := hs3.symm
            have r2 : IntKind.i64.wrap s3 = s3 := wraps_i64 _ (by omega) (by omega)
            have r3 : Hid (s3 = s + (N.take (j + 1)).sum) := Lib.hid (by omega)
            have r4 : IntKind.i64.wrap ((j : Int) + 1) = (j : Int) + 1 := by rw [IntKind.wrap_i64]; omega
            have r5 : (0 : Int) ≤ (j : Int) := by omega
            have r6 : (j : Int) < (nn : Int) := by omega
            replace hx := Lib.hid hx
            clear hsn q1 q2 q3 q4 q5 q6 q7 q8 q9 hs3 hs2
            go_wp2
            exact ⟨⟨j + 1, s3, by omega, rfl, by simp, r3, ht2⟩, by simp [intOf]; omega⟩
          · have hjn : j = N.length := by rw [← hnn.out]; omega
            have r1 := hs2.out
            rw [hjn, List.take_length, e2.out] at r1
            have r2 : Hid (m2 = sumT (K.take (i + 1)) ∧ bb = sumL (K.take (i + 1)) ∧ s2 = sumT (K.take (i + 1))) := Lib.hid ⟨hfin.out.1, hfin.out.2.1, by rw [r1]; exact hfin.out.2.2⟩
            have ht6 := ht5.trans' ht2
            have r7 : ¬ (j : Int) < (nn : Int) := by omega
            clear hjn r1 hfin hs2 hs0 e2 e3
            go_wp2
            exact ⟨⟨i + 1, m2, bb, s2, by omega, rfl, rfl, rfl, by simp, r2, ht6⟩, by simp [intOf]; omega⟩
    · have hik : i = K.length := by rw [← hkn.out]; omega
      obtain ⟨e1, e2, e3⟩ := hI.out
      rw [hik, List.take_length] at e1 e2 e3
      have b6 := hSm.out.sT
      have b7 := hSm.out.sL
      rw [← hn.out] at b6
      rw [b6] at e1 e3
      rw [b7] at e2
      subst e1 e3
      have hlti : ¬ (i : Int) < (kn : Int) := by omega
      have htw := t3.trans' ht
      replace e2 := Lib.hid e2
      replace htw := Lib.hid htw
      clear hI hik b6 b7 hrc hRt hs1 ht
      go_wp2
      go_loopw [18, 136] (fun lv iv wr2 => ∃ (j : Nat) (s2 : Int), j ≤ n ∧ lv = .int .i64 s2 ∧ iv = .int .i64 (j : Int) ∧ Hid (s2 = sumL (L.take j)) ∧ Touch Nothing wr wr2) (fun _ iv _ => n - (intOf iv).toNat)
      case atStart => exact ⟨0, 0, Nat.zero_le _, rfl, rfl, Lib.hid (by simp [sumL]), Touch.refl _ _⟩
      case round =>
        obtain ⟨j, s2, hj, rfl, rfl, hs2, ht2⟩ := hrel
        by_cases hltn : j < n
        · have hjL : j < L.length := by rw [← hn.out]; exact hltn
          obtain ⟨g, o, rfl, hr⟩ := (hfs.out wr (htw.out.trans' ht2)).2 j hjL
          have hsn := sumL_snoc L j hjL
          obtain ⟨x, hx⟩ : ∃ x, x = L[j] := ⟨_, rfl⟩
          have hxb := hSm.out.x0 x (by rw [hx]; exact List.getElem_mem _)
          rw [← hx] at hr hsn
          have q1 := sumL_le L j (fun y hy => (hSm.out.x0 y hy).1)
          have q2 := sumL_bnd 65536 L (fun y hy => (hSm.out.x0 y hy).2)
          rw [← hn.out] at q2
          have q9 := hs2.out
          obtain ⟨xa, xf, xt, xl⟩ := x
          obtain ⟨c0, c1, c2, c3⟩ := fr_cells hr
          simp only [] at c0 c1 c2 c3 hsn hxb
          obtain ⟨s3, hs3⟩ : ∃ z, z = s2 + xl := ⟨_, rfl⟩
          have r1 : s2 + xl = s3 := hs3.symm
          have r2 : IntKind.i64.wrap s3 = s3 := wraps_i64 _ (by omega) (by omega)
          have r3 : Hid (s3 = sumL (L.take (j + 1))) := Lib.hid (by omega)
          have r4 : IntKind.i64.wrap ((j : Int) + 1) = (j : Int) + 1 := by rw [IntKind.wrap_i64]; omega
          have r5 : (0 : Int) ≤ (j : Int) := by omega
          have r6 : (j : Int) < (n : Int) := by omega
          have tx : ∀ o : Obj, Touch Nothing _ (wr.alloc o) := fun o => ht2.alloc o
          replace tx := Lib.hid tx
          replace hx := Lib.hid hx
          clear hsn q1 q2 q9 hs3 hs2 hr hxb
          go_wp2
          exact ⟨⟨j + 1, s3, by omega, rfl, by simp, r3, tx.out _⟩, by simp [intOf]; omega⟩
        · have hjn : j = L.length := by rw [← hn.out]; omega
          have r1 := hs2.out
          rw [hjn, List.take_length] at r1
          have r2 : b = s2 := by rw [r1]; exact e2.out
          subst r2
          have r7 : ¬ (j : Int) < (n : Int) := by omega
          have T := htw.out.trans' ht2
          have x1 : (b == b) = true := by simp
          have x2 : ((n : Int) == (n : Int)) = true := by simp
          clear hjn r1 hs2 ht2 htw e2
          go_wp2_with (first
            | (go_at_call 25; refine (hBt.out _ T).mono ?_; rintro r w6 ⟨⟨p6, c6, rfl, hs6⟩, t6⟩; replace t6 := T.trans' t6; replace hs6 := Lib.hid hs6)
            | (go_at_call 20; refine (hS.out _ p6 c6 t6 hs6.out).mono ?_; rintro r w7 ⟨rfl, t7⟩; replace t7 := t6.trans' t7))
          go_ret
          exact ⟨rfl, t7⟩

theorem ViewSums_walk (w : World) (a : Option Addr) (c : Nat) (L : List Fr) (h : FrA w (.slice a L.length c) L) (hz : ∀ x ∈ L, x.inR) (hl : L.length * 32 ≤ 140737488351232) (b : Int) (hb : -9223372036854775808 ≤ b ∧ b ≤ 9223372036854775807) :
    Calls Try.prog 7 #[.slice a L.length c, .int .i64 b] w fun r w' => r = .returned (.bool true) ∧ Below w.heap.size w w' := by
  by_cases he : (chkR L).2 = 0
  · exact (viewSums_good w a c L h b he).mono fun r w' q => ⟨q.1, q.2.toBelow0 fun _ _ q => q⟩
  · exact (viewSums_bad w a c L h b he).mono fun r w' q => ⟨q.1, q.2.toBelow0 fun _ _ q => q⟩

end Go.Proofs.Ytkoplgpobagfoaa
