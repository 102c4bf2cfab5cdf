/-
  Layer 1, the reference: Check, wrong, Whole, Reduce, Add, Mul, walked. Printed by mkrf9.py.
-/
import Derived.Test.YtfnmnmjpcamkiaaRf8
namespace Go.Proofs.Ytfnmnmjpcamkiaa
open Go.RowKit
set_option linter.unusedVariables false
set_option linter.unusedSimpArgs false

theorem can_big {v : Int} (h0 : 0 ≤ v) (h1 : v < 115792089237316195423570985008687907853269984665640564039457584007913129639936) : nv (canL v 10) = v := nv_canL v 10 h0 (by
  have p10 : (67108864 : Int) ^ 10 = 1852673427797059126777135760139006525652319754650249024631321344126610074238976 := by decide
  rw [p10]
  omega)

theorem can_low (v : Int) : Low9 (canL v 10) := fun j _ => canL_dig v 10 j

set_option maxRecDepth 100000 in
theorem Check_ref (w : World) (s : ByteArray) : Calls Try.prog 25 #[.string s] w fun r w' => r = .returned (.int .i64 (chkC s)) ∧ Touch Nothing w w' := by
  unfold chkC
  by_cases hs : s.size = 32
  · rw [if_neg (by omega)]
    have hOf := Lib.hid (Of_ref w s hs)
    have hv := can_big (dec_pos s) (dec_lt s hs)
    have hLs := fun w => less_any w (canL (dec s) 10) PN (canL_length _ _) rfl (can_low _) PN_low
    rw [hv, PN_val] at hLs
    obtain ⟨X, eX⟩ : ∃ X, X = numV (canL (dec s) 10) := ⟨_, rfl⟩
    obtain ⟨Y, eY⟩ : ∃ Y, Y = numV PN := ⟨_, rfl⟩
    have hP := fun w => P_any w
    rw [← eX] at hOf hLs
    rw [← eY] at hLs hP
    have hsz : ((s.size : Int) == 32) = true := by simp [hs]
    obtain ⟨b, hb⟩ : ∃ b, b = decide (dec s < PP) := ⟨_, rfl⟩
    rw [← hb] at hLs
    replace hs := Lib.hid hs
    replace hv := Lib.hid hv
    replace eX := Lib.hid eX
    replace eY := Lib.hid eY
    replace hLs := Lib.hid hLs
    replace hP := Lib.hid hP
    cases b with
    | true =>
      rw [if_pos (by simpa using hb)]
      clear hb
      go_enter Try.func25, Try.ntmps25
      go_wp2_with (first | (go_at_call 60; refine hOf.out.mono ?_; rintro r w2 ⟨rfl, t2⟩) | (go_at_call 61; refine (hP.out _).mono ?_; rintro r w3 ⟨rfl, t3⟩) | (go_at_call 59; refine (hLs.out _).mono ?_; rintro r w4 ⟨rfl, t4⟩))
      go_ret
      exact ⟨rfl, (t2.trans' t3).trans' t4⟩
    | false =>
      rw [if_neg (by simpa using hb)]
      clear hb
      go_enter Try.func25, Try.ntmps25
      go_wp2_with (first | (go_at_call 60; refine hOf.out.mono ?_; rintro r w2 ⟨rfl, t2⟩) | (go_at_call 61; refine (hP.out _).mono ?_; rintro r w3 ⟨rfl, t3⟩) | (go_at_call 59; refine (hLs.out _).mono ?_; rintro r w4 ⟨rfl, t4⟩))
      go_ret
      exact ⟨rfl, (t2.trans' t3).trans' t4⟩
  · rw [if_pos hs]
    have hsz : ((s.size : Int) == 32) = false := by simp; omega
    replace hs := Lib.hid hs
    go_enter Try.func25, Try.ntmps25
    go_wp2
    go_ret
    exact ⟨rfl, Touch.refl _ _⟩

set_option maxRecDepth 100000 in
set_option maxHeartbeats 1600000 in
theorem wrong_ref (w : World) (a : Option Addr) (c : Nat) (ts : List ByteArray) (h : StrSl w a c ts) (hl : ts.length ≤ 9223372036854775807) :
    Calls Try.prog 63 #[.slice a ts.length c] w fun r w' => r = .returned (.int .i64 (wrC ts)) ∧ Touch Nothing w w' := by
  obtain ⟨wr0, hwr0⟩ : ∃ x, x = wrC ts := ⟨_, rfl⟩
  rw [← hwr0]
  replace hwr0 := Lib.hid hwr0
  have hS := Lib.hid h
  clear h
  go_enter Try.func63, Try.ntmps63
  go_wp2
  go_loopw [3] (fun iv wr => ∃ k : Nat, k ≤ ts.length ∧ iv = .int .i64 (k : Int) ∧ Hid (wrongC (ts.drop k) = wrongC ts) ∧ Touch Nothing w wr) (fun iv _ => ts.length - (intOf iv).toNat)
  case atStart => exact ⟨0, Nat.zero_le _, rfl, Lib.hid rfl, Touch.refl _ _⟩
  case round =>
    obtain ⟨k, hk, rfl, hD, ht⟩ := hrel
    by_cases hlt : k < ts.length
    · obtain ⟨g, o, ha, hc⟩ := hS.out.2 k hlt
      have hcr := ht.cell hc (fun q => q)
      subst ha
      have hCk := Lib.hid (Check_ref wr ts[k])
      have hstep := wrongC_drop ts k hlt
      obtain ⟨s, hs⟩ : ∃ s, s = ts[k] := ⟨_, rfl⟩
      rw [← hs] at hcr hCk hstep
      replace hs := Lib.hid hs
      obtain ⟨q, hq⟩ : ∃ q, q = chkC s := ⟨_, rfl⟩
      rw [← hq] at hCk hstep
      replace hq := Lib.hid hq
      clear hc
      have hk0 : (0 : Int) ≤ (k : Int) := by omega
      have hkn : (k : Int) < (ts.length : Int) := by omega
      by_cases hz : q = 0
      · subst hz
        have hstep := Lib.hid hstep
        go_wp2_with (go_at_call 25; refine hCk.out.mono ?_; rintro r w2 ⟨rfl, ht2⟩)
        refine ⟨⟨k + 1, by omega, by simp, Lib.hid ?_, ht.trans' ht2⟩, by simp [intOf]; omega⟩
        rw [← hD.out, hstep.out, if_neg (by simp)]
      · have hqb : (q == 0) = false := by simpa using hz
        have hfin : wr0 = q := by rw [hwr0.out]; unfold wrC; rw [← hD.out, hstep, if_pos hz, if_pos hz]
        replace hstep := Lib.hid hstep
        replace hz := Lib.hid hz
        replace hfin := Lib.hid hfin
        go_wp2_with (go_at_call 25; refine hCk.out.mono ?_; rintro r w2 ⟨rfl, ht2⟩)
        go_ret
        exact ⟨by rw [hfin.out]; rfl, ht.trans' ht2⟩
    · obtain rfl : k = ts.length := by omega
      have h0 : wrongC ts = 0 := by rw [← hD.out, List.drop_length]; rfl
      by_cases h100 : 100 < ts.length
      · have hfin : wr0 = 2 := by rw [hwr0.out]; unfold wrC; rw [h0, if_neg (by simp), if_pos h100]
        replace hfin := Lib.hid hfin
        replace h0 := Lib.hid h0
        go_wp2
        go_ret
        exact ⟨by rw [hfin.out]; rfl, ht⟩
      · have hfin : wr0 = 0 := by rw [hwr0.out]; unfold wrC; rw [h0, if_neg (by simp), if_neg h100]
        replace hfin := Lib.hid hfin
        replace h0 := Lib.hid h0
        go_wp2
        go_ret
        exact ⟨by rw [hfin.out]; rfl, ht⟩

theorem can_small (n : Int) (h0 : 0 ≤ n) (h1 : n ≤ 2147483647) : canL n 10 = [n % 67108864, n / 67108864, 0, 0, 0, 0, 0, 0, 0, 0] := by
  have hv : nv [n % 67108864, n / 67108864, 0, 0, 0, 0, 0, 0, 0, 0] = n := by rw [nv_lit]; omega
  have hd : Dig [n % 67108864, n / 67108864, 0, 0, 0, 0, 0, 0, 0, 0] := fun j => by
    match j with
    | 0 => simp only [List.getD_cons_zero]; omega
    | 1 => simp only [List.getD_cons_succ, List.getD_cons_zero]; omega
    | 2 => simp
    | 3 => simp
    | 4 => simp
    | 5 => simp
    | 6 => simp
    | 7 => simp
    | 8 => simp
    | 9 => simp
    | _ + 10 => simp
  have := can_uniqL hd
  rw [hv] at this
  exact this.symm

set_option maxRecDepth 100000 in
theorem whole_yes (w : World) (n : Int) (h0 : 0 ≤ n) (h1 : n ≤ 2147483647) : Calls Try.prog 22 #[.int .i64 n] w fun r w' => r = .returned (okV n) ∧ Touch Nothing w w' := by
  have hB := fun w => bytes_gen w _ n (lit_eq (can_small n h0 h1)) (rng_small n h0 h1)
  replace hB := Lib.hid hB
  unfold okV
  have d0 : decide (n < 0) = false := by simp; omega
  have d1 : decide (2147483647 < n) = false := by simp; omega
  have w1 := wrap_i64 (n / 67108864) (by omega)
  go_enter Try.func22, Try.ntmps22
  go_wp2_with (go_at_call 56; refine (hB.out _).mono ?_; rintro r w2 ⟨rfl, ht2⟩)
  go_ret2
  exact ⟨rfl, ht2⟩

set_option maxRecDepth 100000 in
theorem whole_no (w : World) (n : Int) (h : n < 0 ∨ 2147483647 < n) : Calls Try.prog 22 #[.int .i64 n] w fun r w' => r = .returned (errV 1) ∧ Touch Nothing w w' := by
  unfold errV
  rcases h with h | h
  · have d0 : decide (n < 0) = true := by simpa using h
    go_enter Try.func22, Try.ntmps22
    go_wp2
    go_ret2
    exact ⟨rfl, Touch.refl _ _⟩
  · have d0 : decide (n < 0) = false := by simp; omega
    have d1 : decide (2147483647 < n) = true := by simpa using h
    go_enter Try.func22, Try.ntmps22
    go_wp2
    go_ret2
    exact ⟨rfl, Touch.refl _ _⟩

set_option maxRecDepth 100000 in
theorem reduce_no_ref (w : World) (s : ByteArray) (h : 64 < s.size) : Calls Try.prog 20 #[.string s] w fun r w' => r = .returned (errV 2) ∧ Touch Nothing w w' := by
  unfold errV
  go_enter Try.func20, Try.ntmps20
  go_wp2
  go_ret2
  exact ⟨rfl, Touch.refl _ _⟩

theorem byte_lit (n : Int) (h0 : 0 ≤ n) (h1 : n < 67108864) : Value.agg #[.int .i64 n, .int .i64 0, .int .i64 0, .int .i64 0, .int .i64 0, .int .i64 0, .int .i64 0, .int .i64 0, .int .i64 0, .int .i64 0] = numV (canL n 10) := by
  rw [can_small n h0 (by omega), show n % 67108864 = n by omega, show n / 67108864 = 0 by omega]
  rfl

set_option maxRecDepth 100000 in
set_option maxHeartbeats 3200000 in
theorem reduce_yes_ref (w : World) (s : ByteArray) (h : s.size ≤ 64) : Calls Try.prog 20 #[.string s] w fun r w' => r = .returned (okV (dec s % PP)) ∧ Touch Nothing w w' := by
  unfold okV
  obtain ⟨pd, hpd⟩ : ∃ pd : Nat → Int, pd = fun k => ((decD s k : Nat) : Int) % PP := ⟨_, rfl⟩
  have rpd : ∀ k, Rng (pd k) := fun k => by rw [hpd]; exact rng_mod _
  have pN : pd s.size = 0 := by
    rw [hpd]
    show ((decD s s.size : Nat) : Int) % PP = 0
    rw [decD_end s s.size (Nat.le_refl _)]
    rfl
  have p0 : pd 0 = dec s % PP := by rw [hpd]; rfl
  have spd : ∀ k (hk : k < s.size), addZ (mulZ (pd (k + 1)) 256) (s[k].toNat : Int) = pd k := fun k hk => by
    rw [hpd]
    show addZ (mulZ (((decD s (k + 1) : Nat) : Int) % PP) 256) (s[k].toNat : Int) = ((decD s k : Nat) : Int) % PP
    unfold addZ mulZ
    rw [decD_step s k hk, Int.emod_add_emod, Int.add_emod, Int.mul_emod (((decD s (k + 1) : Nat) : Int) % PP), Int.emod_emod, ← Int.mul_emod, ← Int.add_emod]
    congr 1
    simp
    omega
  rw [← p0]
  replace hpd := Lib.hid hpd
  replace rpd := Lib.hid rpd
  replace pN := Lib.hid pN
  replace p0 := Lib.hid p0
  replace spd := Lib.hid spd
  have hz0 := heap_alloc_new w (numC zeroN)
  replace hz0 := Lib.hid hz0
  go_enter Try.func20, Try.ntmps20
  go_wp2
  go_loopw [5] (fun iv wr => ∃ k : Nat, k ≤ s.size ∧ iv = .int .i64 ((k : Int) - 1) ∧ wr.heap[w.heap.size]? = some (numC (canL (pd k) 10)) ∧ Touch Nothing w wr) (fun iv _ => (intOf iv + 1).toNat)
  case atStart => exact ⟨s.size, Nat.le_refl _, rfl, by rw [pN.out]; exact hz0.out, (Touch.refl _ _).alloc _⟩
  case round =>
    obtain ⟨k, hk, rfl, hA, ht⟩ := hrel
    obtain ⟨x0, x1, x2, x3, x4, x5, x6, x7, x8, x9, hx⟩ := can_ten (pd k)
    rw [hx] at hA
    obtain ⟨c0, c1, c2, c3, c4, c5, c6, c7, c8, c9⟩ := num_cells hA
    cases k with
    | zero =>
      have hB := Lib.hid (fun w => bytes_gen w _ (pd 0) (lit_eq hx) (rpd.out 0))
      replace hA := Lib.hid hA
      replace hx := Lib.hid hx
      go_wp2_with (go_at_call 56; refine (hB.out _).mono ?_; rintro r w2 ⟨rfl, ht2⟩)
      go_ret2
      exact ⟨rfl, ht.trans' ht2⟩
    | succ j =>
      have hj : (((j + 1 : Nat) : Int) - 1) = (j : Int) := by omega
      rw [hj]
      clear hj
      have hjs : j < s.size := by omega
      have hbl := s[j].toNat_lt
      have hj0 : (0 : Int) ≤ (j : Int) := by omega
      have hjn : (j : Int) < (s.size : Int) := by omega
      have hss := spd.out j hjs
      have hT := Lib.hid (fun w => times_gen w _ _ (pd (j + 1)) 256 (lit_eq hx) (byte_lit 256 (by omega) (by omega)) (rpd.out (j + 1)) (rng_small 256 (by omega) (by omega)))
      have hbb := byte_lit (s[j].toNat : Int) (by omega) (by omega)
      have rbb := rng_small (s[j].toNat : Int) (by omega) (by omega)
      have w1 := wrap_i64 (s[j].toNat : Int) (by omega)
      replace hA := Lib.hid hA
      replace hx := Lib.hid hx
      replace hss := Lib.hid hss
      replace hbb := Lib.hid hbb
      replace rbb := Lib.hid rbb
      go_upto_region 7 with fail
      go_region_with (first | (go_at_call 55; refine (hT.out _).mono ?_; rintro r w3 ⟨⟨y0, y1, y2, y3, y4, y5, y6, y7, y8, y9, rfl, hy⟩, t3⟩; have hT2 := Lib.hid (fun w => plus_gen w _ _ (mulZ (pd (j + 1)) 256) (s[j].toNat : Int) (lit_eq hy) hbb.out (rng_mul _ _) rbb.out); replace hy := Lib.hid hy) | (go_at_call 54; refine (hT2.out _).mono ?_; rintro r w4 ⟨⟨z0, z1, z2, z3, z4, z5, z6, z7, z8, z9, rfl, hzz⟩, t4⟩; replace hzz := Lib.hid hzz; have hA4 := touch_heap0 t4 (touch_heap0 t3 hA.out); obtain ⟨d0, d1, d2, d3, d4, d5, d6, d7, d8, d9⟩ := num_cells hA4; have f0 := frz_blk hA4 0; have f1 := frz_blk hA4 1; have f2 := frz_blk hA4 2; have f3 := frz_blk hA4 3; have f4 := frz_blk hA4 4; have f5 := frz_blk hA4 5; have f6 := frz_blk hA4 6; have f7 := frz_blk hA4 7; have f8 := frz_blk hA4 8; have f9 := frz_blk hA4 9; replace hA4 := Lib.hid hA4))
      all_goals
        go_wp2_with fail
        have hb5 := set10 (x0 := z0) (x1 := z1) (x2 := z2) (x3 := z3) (x4 := z4) (x5 := z5) (x6 := z6) (x7 := z7) (x8 := z8) (x9 := z9) rfl hA4.out
        have hto := touch10 (w := w4) (g := w.heap.size) (v0 := .int .i64 z0) (v1 := .int .i64 z1) (v2 := .int .i64 z2) (v3 := .int .i64 z3) (v4 := .int .i64 z4) (v5 := .int .i64 z5) (v6 := .int .i64 z6) (v7 := .int .i64 z7) (v8 := .int .i64 z8) (v9 := .int .i64 z9)
        refine ⟨⟨j, by omega, rfl, ?_, ((ht.drew.trans' t3).trans' t4).trans hto fun i hi q => by omega⟩, by simp [intOf]⟩
        rw [← hss.out, hzz.out]
        exact hb5

set_option maxRecDepth 100000 in
set_option maxHeartbeats 3200000 in
theorem Add_ref (w : World) (a : Option Addr) (c : Nat) (ts : List ByteArray) (h : StrSl w a c ts) (hl : ts.length ≤ 9223372036854775807) :
    Calls Try.prog 28 #[.slice a ts.length c] w fun r w' => r = .returned (addR ts) ∧ Touch Nothing w w' := by
  have hW := Lib.hid (wrong_ref w a c ts h hl)
  by_cases hz : wrC ts = 0
  · have hR : addR ts = okV (sumD ts % PP) := by unfold addR; rw [hz, if_neg (by simp)]
    rw [hR]
    unfold okV
    clear hR
    obtain ⟨hall, _⟩ := wrC_zero hz
    replace hall := Lib.hid hall
    obtain ⟨pd, hpd⟩ : ∃ pd : Nat → Int, pd = fun k => sumD (ts.take k) % PP := ⟨_, rfl⟩
    have rpd : ∀ k, Rng (pd k) := fun k => by rw [hpd]; exact rng_mod _
    have p0 : pd 0 = 0 := by rw [hpd]; rfl
    have pN : pd ts.length = sumD ts % PP := by
      rw [hpd]
      show sumD (ts.take ts.length) % PP = _
      rw [List.take_length]
    have spd : ∀ k (hk : k < ts.length), addZ (pd k) (dec ts[k]) = pd (k + 1) := fun k hk => by
      rw [hpd]
      show addZ (sumD (ts.take k) % PP) (dec ts[k]) = sumD (ts.take (k + 1)) % PP
      rw [take_one ts k hk, sumD_append]
      unfold addZ
      rw [Int.emod_add_emod]
      simp [sumD]
    rw [← pN]
    rw [hz] at hW
    replace hz := Lib.hid hz
    replace h := Lib.hid h
    replace hpd := Lib.hid hpd
    replace rpd := Lib.hid rpd
    replace p0 := Lib.hid p0
    replace pN := Lib.hid pN
    replace spd := Lib.hid spd
    go_enter Try.func28, Try.ntmps28
    go_upto_region 6 with (first | (go_at_call 63; refine hW.out.mono ?_; rintro r w2 ⟨rfl, ht2⟩))
    obtain ⟨w9, hw9⟩ : ∃ w9 : World, w9 = w2 := ⟨_, rfl⟩
    have hz0 := heap_alloc_new w2 (numC zeroN)
    have ht9 := ht2.alloc (numC zeroN)
    replace hz0 := Lib.hid hz0
    replace ht9 := Lib.hid ht9
    rw [← hw9] at hz0 ht9 ht2 ⊢
    clear hw9 w2
    have hsz2 := ht2.size
    go_loopw [6] (fun iv wr => ∃ k : Nat, k ≤ ts.length ∧ iv = .int .i64 (k : Int) ∧ wr.heap[w9.heap.size]? = some (numC (canL (pd k) 10)) ∧ Touch Nothing w wr) (fun iv _ => ts.length - (intOf iv).toNat)
    case atStart => exact ⟨0, Nat.zero_le _, rfl, by rw [p0.out]; exact hz0.out, ht9.out⟩
    case round =>
      obtain ⟨k, hk, rfl, hA, ht⟩ := hrel
      obtain ⟨x0, x1, x2, x3, x4, x5, x6, x7, x8, x9, hx⟩ := can_ten (pd k)
      rw [hx] at hA
      obtain ⟨c0, c1, c2, c3, c4, c5, c6, c7, c8, c9⟩ := num_cells hA
      by_cases hlt : k < ts.length
      · obtain ⟨g, o, ha, hc⟩ := h.out.2 k hlt
        have hcr := ht.cell hc (fun q => q)
        subst ha
        obtain ⟨h32, hd⟩ := hall.out ts[k] (List.getElem_mem _)
        have hss := spd.out k hlt
        obtain ⟨s, hs⟩ : ∃ s, s = ts[k] := ⟨_, rfl⟩
        rw [← hs] at hcr h32 hd hss
        have hOf := Lib.hid (fun w => Of_ref w s h32)
        have hT := Lib.hid (fun w => plus_gen w _ _ (pd k) (dec s) (lit_eq hx) rfl (rpd.out k) ⟨dec_pos s, hd⟩)
        have hcrH := Lib.hid hcr
        replace hss := Lib.hid hss
        replace hs := Lib.hid hs
        replace h32 := Lib.hid h32
        replace hA := Lib.hid hA
        replace hx := Lib.hid hx
        clear hc hd
        have hk0 : (0 : Int) ≤ (k : Int) := by omega
        have hkn : (k : Int) < (ts.length : Int) := by omega
        go_upto_region 8 with fail
        go_region_with (first | (go_at_call 60; refine (hOf.out _).mono ?_; rintro r w3 ⟨rfl, t3⟩; have hA3 := touch_heap0 t3 hA.out; obtain ⟨c0, c1, c2, c3, c4, c5, c6, c7, c8, c9⟩ := num_cells hA3; replace hA3 := Lib.hid hA3) | (go_at_call 54; refine (hT.out _).mono ?_; rintro r w4 ⟨⟨z0, z1, z2, z3, z4, z5, z6, z7, z8, z9, rfl, hzz⟩, t4⟩; replace hzz := Lib.hid hzz; have hA4 := touch_heap0 t4 (touch_heap0 t3 hA.out); obtain ⟨d0, d1, d2, d3, d4, d5, d6, d7, d8, d9⟩ := num_cells hA4; have f0 := frz_blk hA4 0; have f1 := frz_blk hA4 1; have f2 := frz_blk hA4 2; have f3 := frz_blk hA4 3; have f4 := frz_blk hA4 4; have f5 := frz_blk hA4 5; have f6 := frz_blk hA4 6; have f7 := frz_blk hA4 7; have f8 := frz_blk hA4 8; have f9 := frz_blk hA4 9; replace hA4 := Lib.hid hA4))
        all_goals
          go_wp2_with fail
          have hb5 := set10 (x0 := z0) (x1 := z1) (x2 := z2) (x3 := z3) (x4 := z4) (x5 := z5) (x6 := z6) (x7 := z7) (x8 := z8) (x9 := z9) rfl hA4.out
          have hto := touch10 (w := w4) (g := w9.heap.size) (v0 := .int .i64 z0) (v1 := .int .i64 z1) (v2 := .int .i64 z2) (v3 := .int .i64 z3) (v4 := .int .i64 z4) (v5 := .int .i64 z5) (v6 := .int .i64 z6) (v7 := .int .i64 z7) (v8 := .int .i64 z8) (v9 := .int .i64 z9)
          refine ⟨⟨k + 1, by omega, by simp, ?_, ((ht.drew.trans' t3).trans' t4).trans hto fun i hi q => by omega⟩, by simp [intOf]; omega⟩
          rw [← hss.out, hzz.out]
          exact hb5
      · obtain rfl : k = ts.length := by omega
        have hB := Lib.hid (fun w => bytes_gen w _ (pd ts.length) (lit_eq hx) (rpd.out ts.length))
        replace hA := Lib.hid hA
        replace hx := Lib.hid hx
        go_wp2_with (go_at_call 56; refine (hB.out _).mono ?_; rintro r w5 ⟨rfl, t5⟩)
        go_ret2
        exact ⟨rfl, ht.trans' t5⟩
  · have hR : addR ts = errV (wrC ts) := by unfold addR; rw [if_pos hz]
    rw [hR]
    unfold errV
    clear hR
    obtain ⟨q, hq⟩ : ∃ q, q = wrC ts := ⟨_, rfl⟩
    rw [← hq] at hW hz ⊢
    have hqb : (q == 0) = false := by simpa using hz
    replace hz := Lib.hid hz
    replace hq := Lib.hid hq
    replace h := Lib.hid h
    go_enter Try.func28, Try.ntmps28
    go_wp2_with (go_at_call 63; refine hW.out.mono ?_; rintro r w2 ⟨rfl, ht2⟩)
    go_ret2
    exact ⟨rfl, ht2⟩

set_option maxRecDepth 100000 in
set_option maxHeartbeats 3200000 in
theorem Mul_ref (w : World) (a : Option Addr) (c : Nat) (ts : List ByteArray) (h : StrSl w a c ts) (hl : ts.length ≤ 9223372036854775807) :
    Calls Try.prog 30 #[.slice a ts.length c] w fun r w' => r = .returned (mulR ts) ∧ Touch Nothing w w' := by
  have hW := Lib.hid (wrong_ref w a c ts h hl)
  by_cases hz : wrC ts = 0
  · have hR : mulR ts = okV (mulD ts % PP) := by unfold mulR; rw [hz, if_neg (by simp)]
    rw [hR]
    unfold okV
    clear hR
    obtain ⟨hall, _⟩ := wrC_zero hz
    replace hall := Lib.hid hall
    obtain ⟨pd, hpd⟩ : ∃ pd : Nat → Int, pd = fun k => mulD (ts.take k) % PP := ⟨_, rfl⟩
    have rpd : ∀ k, Rng (pd k) := fun k => by rw [hpd]; exact rng_mod _
    have p0 : pd 0 = 1 := by rw [hpd]; rfl
    have pN : pd ts.length = mulD ts % PP := by
      rw [hpd]
      show mulD (ts.take ts.length) % PP = _
      rw [List.take_length]
    have spd : ∀ k (hk : k < ts.length), mulZ (pd k) (dec ts[k]) = pd (k + 1) := fun k hk => by
      rw [hpd]
      show mulZ (mulD (ts.take k) % PP) (dec ts[k]) = mulD (ts.take (k + 1)) % PP
      rw [take_one ts k hk, mulD_append]
      unfold mulZ
      rw [Int.mul_emod (mulD (ts.take k) % PP), Int.emod_emod, ← Int.mul_emod]
      simp [mulD]
    rw [← pN]
    rw [hz] at hW
    replace hz := Lib.hid hz
    replace h := Lib.hid h
    replace hpd := Lib.hid hpd
    replace rpd := Lib.hid rpd
    replace p0 := Lib.hid p0
    replace pN := Lib.hid pN
    replace spd := Lib.hid spd
    go_enter Try.func30, Try.ntmps30
    go_upto_region 6 with (first | (go_at_call 63; refine hW.out.mono ?_; rintro r w2 ⟨rfl, ht2⟩) | (go_at_call 65; refine (One_lit _).mono ?_; rintro r w6 ⟨rfl, t6⟩))
    obtain ⟨w9, hw9⟩ : ∃ w9 : World, w9 = w6 := ⟨_, rfl⟩
    have hz0 := heap_alloc_new w6 (numC [1, 0, 0, 0, 0, 0, 0, 0, 0, 0])
    have ht9 := (ht2.trans' t6).alloc (numC [1, 0, 0, 0, 0, 0, 0, 0, 0, 0])
    have hs6 := t6.size
    replace ht2 := ht2.trans' t6
    replace hz0 := Lib.hid hz0
    replace ht9 := Lib.hid ht9
    rw [← hw9] at hz0 ht9 hs6 ht2 ⊢
    clear hw9 t6 w6
    have hsz2 := ht2.size
    go_loopw [6] (fun iv wr => ∃ k : Nat, k ≤ ts.length ∧ iv = .int .i64 (k : Int) ∧ wr.heap[w9.heap.size]? = some (numC (canL (pd k) 10)) ∧ Touch Nothing w wr) (fun iv _ => ts.length - (intOf iv).toNat)
    case atStart => exact ⟨0, Nat.zero_le _, rfl, by rw [p0.out]; exact hz0.out, ht9.out⟩
    case round =>
      obtain ⟨k, hk, rfl, hA, ht⟩ := hrel
      obtain ⟨x0, x1, x2, x3, x4, x5, x6, x7, x8, x9, hx⟩ := can_ten (pd k)
      rw [hx] at hA
      obtain ⟨c0, c1, c2, c3, c4, c5, c6, c7, c8, c9⟩ := num_cells hA
      by_cases hlt : k < ts.length
      · obtain ⟨g, o, ha, hc⟩ := h.out.2 k hlt
        have hcr := ht.cell hc (fun q => q)
        subst ha
        obtain ⟨h32, hd⟩ := hall.out ts[k] (List.getElem_mem _)
        have hss := spd.out k hlt
        obtain ⟨s, hs⟩ : ∃ s, s = ts[k] := ⟨_, rfl⟩
        rw [← hs] at hcr h32 hd hss
        have hOf := Lib.hid (fun w => Of_ref w s h32)
        have hT := Lib.hid (fun w => times_gen w _ _ (pd k) (dec s) (lit_eq hx) rfl (rpd.out k) ⟨dec_pos s, hd⟩)
        have hcrH := Lib.hid hcr
        replace hss := Lib.hid hss
        replace hs := Lib.hid hs
        replace h32 := Lib.hid h32
        replace hA := Lib.hid hA
        replace hx := Lib.hid hx
        clear hc hd
        have hk0 : (0 : Int) ≤ (k : Int) := by omega
        have hkn : (k : Int) < (ts.length : Int) := by omega
        go_upto_region 8 with fail
        go_region_with (first | (go_at_call 60; refine (hOf.out _).mono ?_; rintro r w3 ⟨rfl, t3⟩; have hA3 := touch_heap0 t3 hA.out; obtain ⟨c0, c1, c2, c3, c4, c5, c6, c7, c8, c9⟩ := num_cells hA3; replace hA3 := Lib.hid hA3) | (go_at_call 55; refine (hT.out _).mono ?_; rintro r w4 ⟨⟨z0, z1, z2, z3, z4, z5, z6, z7, z8, z9, rfl, hzz⟩, t4⟩; replace hzz := Lib.hid hzz; have hA4 := touch_heap0 t4 (touch_heap0 t3 hA.out); obtain ⟨d0, d1, d2, d3, d4, d5, d6, d7, d8, d9⟩ := num_cells hA4; have f0 := frz_blk hA4 0; have f1 := frz_blk hA4 1; have f2 := frz_blk hA4 2; have f3 := frz_blk hA4 3; have f4 := frz_blk hA4 4; have f5 := frz_blk hA4 5; have f6 := frz_blk hA4 6; have f7 := frz_blk hA4 7; have f8 := frz_blk hA4 8; have f9 := frz_blk hA4 9; replace hA4 := Lib.hid hA4))
        all_goals
          go_wp2_with fail
          have hb5 := set10 (x0 := z0) (x1 := z1) (x2 := z2) (x3 := z3) (x4 := z4) (x5 := z5) (x6 := z6) (x7 := z7) (x8 := z8) (x9 := z9) rfl hA4.out
          have hto := touch10 (w := w4) (g := w9.heap.size) (v0 := .int .i64 z0) (v1 := .int .i64 z1) (v2 := .int .i64 z2) (v3 := .int .i64 z3) (v4 := .int .i64 z4) (v5 := .int .i64 z5) (v6 := .int .i64 z6) (v7 := .int .i64 z7) (v8 := .int .i64 z8) (v9 := .int .i64 z9)
          refine ⟨⟨k + 1, by omega, by simp, ?_, ((ht.drew.trans' t3).trans' t4).trans hto fun i hi q => by omega⟩, by simp [intOf]; omega⟩
          rw [← hss.out, hzz.out]
          exact hb5
      · obtain rfl : k = ts.length := by omega
        have hB := Lib.hid (fun w => bytes_gen w _ (pd ts.length) (lit_eq hx) (rpd.out ts.length))
        replace hA := Lib.hid hA
        replace hx := Lib.hid hx
        go_wp2_with (go_at_call 56; refine (hB.out _).mono ?_; rintro r w5 ⟨rfl, t5⟩)
        go_ret2
        exact ⟨rfl, ht.trans' t5⟩
  · have hR : mulR ts = errV (wrC ts) := by unfold mulR; rw [if_pos hz]
    rw [hR]
    unfold errV
    clear hR
    obtain ⟨q, hq⟩ : ∃ q, q = wrC ts := ⟨_, rfl⟩
    rw [← hq] at hW hz ⊢
    have hqb : (q == 0) = false := by simpa using hz
    replace hz := Lib.hid hz
    replace hq := Lib.hid hq
    replace h := Lib.hid h
    go_enter Try.func30, Try.ntmps30
    go_wp2_with (go_at_call 63; refine hW.out.mono ?_; rintro r w2 ⟨rfl, ht2⟩)
    go_ret2
    exact ⟨rfl, ht2⟩

end Go.Proofs.Ytfnmnmjpcamkiaa
