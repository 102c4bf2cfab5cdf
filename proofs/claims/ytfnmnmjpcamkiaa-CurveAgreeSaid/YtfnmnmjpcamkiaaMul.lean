/-
  Layer 1: Mul, Sub, Inv, Square, walked.
-/
import Derived.Test.YtfnmnmjpcamkiaaAdd
namespace Go.Proofs.Ytfnmnmjpcamkiaa
open Go.RowKit
set_option linter.unusedVariables false
set_option linter.unusedSimpArgs false

theorem mul_step {e f : El} {a b : Int} (he : e.val % PP = a % PP) (hf : f.val = b) : (timE e f).val % PP = (a * (b * 1)) % PP := by
  rw [timE_mod, hf, Int.mul_emod, he, ← Int.mul_emod, Int.mul_one]

set_option maxRecDepth 100000 in
set_option maxHeartbeats 3200000 in
theorem Mul_any (w : World) (a : Option Addr) (c : Nat) (ts : List ByteArray) (h : StrSl w a c ts) (hl : ts.length ≤ 9223372036854775807) :
    Calls Try.prog 29 #[.slice a ts.length c] w fun r w' => r = .returned (mulR ts) ∧ Touch Nothing w w' := by
  have hW := Lib.hid (wrong_any w a c ts h hl)
  by_cases hz : wrC ts = 0
  · have hR : mulR ts = okV (mulD ts % PP) := by unfold mulR; rw [hz, if_neg (by simp)]
    rw [hR]
    unfold okV
    clear hR
    obtain ⟨fin, hfin⟩ : ∃ x, x = mulD ts % PP := ⟨_, rfl⟩
    rw [← hfin]
    replace hfin := Lib.hid hfin
    obtain ⟨hall, _⟩ := wrC_zero hz
    replace hall := Lib.hid hall
    rw [hz] at hW
    replace hz := Lib.hid hz
    replace h := Lib.hid h
    go_enter Try.func29, Try.ntmps29
    go_upto_region 6 with (go_at_call 62; refine hW.out.mono ?_; rintro r w2 ⟨rfl, ht2⟩)
    have hz0 := heap_alloc_new w2 (elC ⟨1, 0, 0, 0, 0⟩)
    replace hz0 := Lib.hid hz0
    go_loopw [16] (fun iv wr => ∃ k : Nat, k ≤ ts.length ∧ iv = .int .i64 (k : Int) ∧ (∃ e : El, wr.heap[w2.heap.size]? = some (elC e) ∧ e.Fine ∧ e.val % PP = mulD (ts.take k) % PP) ∧ Touch Nothing w wr) (fun iv _ => ts.length - (intOf iv).toNat)
    case atStart => exact ⟨0, Nat.zero_le _, rfl, ⟨⟨1, 0, 0, 0, 0⟩, hz0.out, one_fine 1 (by omega) (by omega), by rw [List.take_zero, small_val]; rfl⟩, ht2.alloc _⟩
    case round =>
      obtain ⟨k, hk, rfl, ⟨e, he, hf, hm⟩, ht⟩ := hrel
      have hsz2 := ht2.size
      by_cases hlt : k < ts.length
      · obtain ⟨g, o, ha, hc⟩ := h.out.2 k hlt
        have hcr := ht.cell hc (fun q => q)
        subst ha
        obtain ⟨h32, hd⟩ := hall.out ts[k] (List.getElem_mem _)
        have htk := take_one ts k hlt
        obtain ⟨s, hs⟩ : ∃ s, s = ts[k] := ⟨_, rfl⟩
        rw [← hs] at hcr h32 hd htk
        obtain ⟨f, hfv⟩ : ∃ f, f = canE (dec s % 57896044618658097711785492504343953926634992332820282019728792003956564819968) := ⟨_, rfl⟩
        have ff : f.Fine := by rw [hfv]; exact canE_fine _
        have fv : f.val = dec s := by rw [hfv]; exact load_val s hd
        have hst : (timE e f).val % PP = mulD (ts.take (k + 1)) % PP := by
          rw [htk, mulD_append, mul_step hm fv]; rfl
        have hf2 := Lib.hid (timE_fine hf ff)
        obtain ⟨t, htv⟩ : ∃ t, t = timE e f := ⟨_, rfl⟩
        rw [← htv] at hst hf2
        have hne := lt_of_heap he
        obtain ⟨c0, c1, c2, c3, c4⟩ := el_cells he
        replace hst := Lib.hid hst
        replace htv := Lib.hid htv
        replace hs := Lib.hid hs
        replace hfv := Lib.hid hfv
        replace fv := Lib.hid fv
        replace h32 := Lib.hid h32
        replace htk := Lib.hid htk
        replace hm := Lib.hid hm
        replace he := Lib.hid he
        replace hf := Lib.hid hf
        replace ff := Lib.hid ff
        clear hc hd
        have hk0 : (0 : Int) ≤ (k : Int) := by omega
        go_upto_region 8 with fail
        go_region_with (first | (go_at_call 58; refine (load_to _ s h32.out f hfv.out).mono ?_; rintro r w3 ⟨rfl, ht3⟩; have he3 := touch_heap0 ht3 he.out; obtain ⟨c0, c1, c2, c3, c4⟩ := el_cells he3; replace he3 := Lib.hid he3) | (go_at_call 64; refine (times_to _ e f t htv.out hf.out ff.out).mono ?_; rintro r w4 ⟨rfl, ht4⟩; have he4 := touch_heap0 ht4 (touch_heap0 ht3 he.out); have f0 := frz_blk he4 0; have f1 := frz_blk he4 1; have f2 := frz_blk he4 2; have f3 := frz_blk he4 3; have f4 := frz_blk he4 4; obtain ⟨c0, c1, c2, c3, c4⟩ := el_cells he4; replace he4 := Lib.hid he4))
        all_goals
          go_wp2_with fail
          have hb5 := sets_blk (z := e) (x := t) he4.out
          have ht5 := sets_touch (w := w4) (j := w2.heap.size) (v0 := .int .u64 t.a0) (v1 := .int .u64 t.a1) (v2 := .int .u64 t.a2) (v3 := .int .u64 t.a3) (v4 := .int .u64 t.a4)
          exact ⟨⟨k + 1, by omega, by simp, ⟨t, hb5, hf2.out, hst.out⟩, ((ht.drew.trans' ht3).trans' ht4).trans ht5 fun i hi q => by omega⟩, by simp [intOf]; omega⟩
      · obtain rfl : k = ts.length := by omega
        rw [List.take_length, ← hfin.out] at hm
        have hT := Lib.hid (Text_any wr _ e he (fine63 hf))
        rw [hm] at hT
        replace hm := Lib.hid hm
        replace hf := Lib.hid hf
        replace he := Lib.hid he
        go_wp2_with (go_at_call 53; refine hT.out.mono ?_; rintro r w5 ⟨rfl, ht5⟩)
        go_ret2
        exact ⟨rfl, ht.trans' ht5⟩
  · have hR : mulR ts = errV (wrC ts) := by unfold mulR; rw [if_pos hz]
    rw [hR]
    unfold errV
    clear hR
    obtain ⟨q, hq⟩ : ∃ q, q = wrC ts := ⟨_, rfl⟩
    rw [← hq] at hW hz ⊢
    have hqb : (q == 0) = false := by simpa using hz
    replace hz := Lib.hid hz
    replace hq := Lib.hid hq
    replace h := Lib.hid h
    go_enter Try.func29, Try.ntmps29
    go_wp2_with (go_at_call 62; refine hW.out.mono ?_; rintro r w2 ⟨rfl, ht2⟩)
    go_ret2
    exact ⟨rfl, ht2⟩

def subR (a b : ByteArray) : Value := if wrC [a, b] ≠ 0 then errV (wrC [a, b]) else okV ((dec a - dec b) % PP)

theorem strs_two (w : World) (a b : ByteArray) (t : TypeId) : StrSl (w.alloc (.cells #[.string a, .string b] t)) (some ⟨w.heap.size, 0, none⟩) 2 [a, b] := by
  refine ⟨by simp, fun i hi => ⟨_, _, rfl, ?_⟩⟩
  rw [Nat.zero_add, cell_blk (heap_alloc_new w _)]
  match i, hi with
  | 0, _ => rfl
  | 1, _ => rfl

set_option maxRecDepth 100000 in
set_option maxHeartbeats 1600000 in
theorem Sub_any (w : World) (a b : ByteArray) : Calls Try.prog 31 #[.string a, .string b] w fun r w' => r = .returned (subR a b) ∧ Touch Nothing w w' := by
  have hW := fun t => wrong_any _ _ _ _ (strs_two w a b t) (by simp)
  by_cases hz : wrC [a, b] = 0
  · have hR : subR a b = okV ((dec a - dec b) % PP) := by unfold subR; rw [hz, if_neg (by simp)]
    rw [hR]
    unfold okV
    clear hR
    rw [hz] at hW
    obtain ⟨hall, _⟩ := wrC_zero hz
    obtain ⟨ha32, had⟩ := hall a (by simp)
    obtain ⟨hb32, hbd⟩ := hall b (by simp)
    obtain ⟨f, hfv⟩ : ∃ f, f = canE (dec a % 57896044618658097711785492504343953926634992332820282019728792003956564819968) := ⟨_, rfl⟩
    obtain ⟨g, hgv⟩ : ∃ f, f = canE (dec b % 57896044618658097711785492504343953926634992332820282019728792003956564819968) := ⟨_, rfl⟩
    have ff : f.Fine := by rw [hfv]; exact canE_fine _
    have fg : g.Fine := by rw [hgv]; exact canE_fine _
    have fv : f.val = dec a := by rw [hfv]; exact load_val a had
    have gv : g.val = dec b := by rw [hgv]; exact load_val b hbd
    have hst : (minE f g).val % PP = (dec a - dec b) % PP := by rw [minE_mod, fv, gv]
    have hf2 := Lib.hid (minE_fine ff fg)
    obtain ⟨fin, hfin⟩ : ∃ x, x = (dec a - dec b) % PP := ⟨_, rfl⟩
    rw [← hfin] at hst ⊢
    replace hst := Lib.hid hst
    replace hfin := Lib.hid hfin
    replace hW := Lib.hid hW
    replace hz := Lib.hid hz
    replace ha32 := Lib.hid ha32
    replace hb32 := Lib.hid hb32
    replace hfv := Lib.hid hfv
    replace hgv := Lib.hid hgv
    replace fv := Lib.hid fv
    replace gv := Lib.hid gv
    replace ff := Lib.hid ff
    replace fg := Lib.hid fg
    clear hall had hbd
    go_enter Try.func31, Try.ntmps31
    go_upto_region 5 with (first | (go_at_call 62; refine (hW.out _).mono ?_; rintro r w2 ⟨rfl, ht2⟩) | (go_at_call_of 58 (Value.string a); refine (load_to _ a ha32.out f hfv.out).mono ?_; rintro r w3 ⟨rfl, ht3⟩) | (go_at_call_of 58 (Value.string b); refine (load_to _ b hb32.out g hgv.out).mono ?_; rintro r w4 ⟨rfl, ht4⟩))
    have hbg : ((w4.alloc (elC f)).alloc (elC g)).heap[w4.heap.size + 1]? = some (elC g) := by
      have := heap_alloc_new (w4.alloc (elC f)) (elC g)
      simpa using this
    have hbf : ((w4.alloc (elC f)).alloc (elC g)).heap[w4.heap.size]? = some (elC f) := ((Touch.refl Nothing _).alloc _).heap (heap_alloc_new w4 (elC f)) (fun q => q)
    have hM := Lib.hid (Minus_any _ _ _ _ _ _ _ hbf hbf hbg ff.out fg.out)
    have hw4 : Touch Nothing w w4 := ((((Touch.refl Nothing w).alloc _).trans' ht2).trans' ht3).trans' ht4
    replace hbg := Lib.hid hbg
    replace hbf := Lib.hid hbf
    go_upto_region 6 with (go_at_call 66; refine hM.out.mono ?_; rintro r w5 ⟨rfl, hh5, ht5⟩)
    have hT := Lib.hid (Text_any w5 _ _ hh5 (fine63 hf2.out))
    rw [hst.out] at hT
    replace hh5 := Lib.hid hh5
    have hsz := hw4.size
    go_wp2_with (go_at_call 53; refine hT.out.mono ?_; rintro r w6 ⟨rfl, ht6⟩)
    go_ret2
    exact ⟨rfl, (((hw4.alloc _).alloc _).trans ht5 fun i hi q => by omega).trans' ht6⟩
  · have hR : subR a b = errV (wrC [a, b]) := by unfold subR; rw [if_pos hz]
    rw [hR]
    unfold errV
    clear hR
    obtain ⟨q, hq⟩ : ∃ q, q = wrC [a, b] := ⟨_, rfl⟩
    rw [← hq] at hW hz ⊢
    have hqb : (q == 0) = false := by simpa using hz
    replace hz := Lib.hid hz
    replace hq := Lib.hid hq
    replace hW := Lib.hid hW
    go_enter Try.func31, Try.ntmps31
    go_wp2_with (go_at_call 62; refine (hW.out _).mono ?_; rintro r w2 ⟨rfl, ht2⟩)
    go_ret2
    exact ⟨rfl, ((Touch.refl Nothing w).alloc _).trans' ht2⟩

/-- A number to the power p - 2. -/
def invN (x : Int) : Int := x ^ 57896044618658097711785492504343953926634992332820282019728792003956564819947 % PP

theorem invE_n (e : El) : (invE e).val % PP = invN e.val := invE_mod e

set_option maxRecDepth 100000 in
set_option maxHeartbeats 1600000 in
theorem Inv_any (w : World) (a : ByteArray) : Calls Try.prog 35 #[.string a] w fun r w' => r = .returned (if chkC a ≠ 0 then errV (chkC a) else okV (invN (dec a))) ∧ Touch Nothing w w' := by
  have hC := Lib.hid (Check_any w a)
  by_cases hz : chkC a = 0
  · rw [if_neg (by simpa using hz)]
    unfold okV
    obtain ⟨h32, had⟩ := wrong_zero (l := [a]) (by unfold wrongC; rw [if_neg (by simpa using hz)]; rfl) a (by simp)
    rw [hz] at hC
    obtain ⟨f, hfv⟩ : ∃ f, f = canE (dec a % 57896044618658097711785492504343953926634992332820282019728792003956564819968) := ⟨_, rfl⟩
    have ff : f.Fine := by rw [hfv]; exact canE_fine _
    have fv : f.val = dec a := by rw [hfv]; exact load_val a had
    obtain ⟨i, hi⟩ : ∃ i, i = invE f := ⟨_, rfl⟩
    have fi : i.Fine := by rw [hi]; exact invE_fine ff
    have iv : i.val % PP = invN (dec a) := by rw [hi, invE_n, fv]
    obtain ⟨fin, hfin⟩ : ∃ x, x = invN (dec a) := ⟨_, rfl⟩
    rw [← hfin] at iv ⊢
    have hT := fun w => text_any w i (fine63 fi)
    rw [iv] at hT
    have hI := fun w h => inverse_any w w.heap.size f h ff
    have hI2 : ∀ w : World, Calls Try.prog 68 #[.pointer (some ⟨w.heap.size, 0, none⟩)] (w.alloc (elC f)) fun r w' => r = .returned (elV i) ∧ Touch Nothing (w.alloc (elC f)) w' := fun w => by
      rw [hi]; exact inverse_any _ _ f (heap_alloc_new w _) ff
    have hin : elV i = .agg #[.int .u64 i.a0, .int .u64 i.a1, .int .u64 i.a2, .int .u64 i.a3, .int .u64 i.a4] := rfl
    rw [hin] at hT hI2
    clear hin hI
    replace hT := Lib.hid hT
    replace hI2 := Lib.hid hI2
    replace hfin := Lib.hid hfin
    replace hi := Lib.hid hi
    replace hz := Lib.hid hz
    replace h32 := Lib.hid h32
    replace hfv := Lib.hid hfv
    replace fv := Lib.hid fv
    replace iv := Lib.hid iv
    replace ff := Lib.hid ff
    replace fi := Lib.hid fi
    clear had
    go_enter Try.func35, Try.ntmps35
    go_wp2_with (first | (go_at_call 24; refine hC.out.mono ?_; rintro r w2 ⟨rfl, ht2⟩) | (go_at_call 58; refine (load_to _ a h32.out f hfv.out).mono ?_; rintro r w3 ⟨rfl, ht3⟩) | (go_at_call 68; refine (hI2.out _).mono ?_; rintro r w4 ⟨rfl, ht4⟩) | (go_at_call 57; refine (hT.out _).mono ?_; rintro r w5 ⟨rfl, ht5⟩))
    go_ret2
    exact ⟨rfl, (((ht2.trans' ht3).alloc _).trans' ht4).trans' ht5⟩
  · rw [if_pos hz]
    unfold errV
    obtain ⟨q, hq⟩ : ∃ q, q = chkC a := ⟨_, rfl⟩
    rw [← hq] at hC hz ⊢
    have hqb : (q == 0) = false := by simpa using hz
    replace hz := Lib.hid hz
    replace hq := Lib.hid hq
    go_enter Try.func35, Try.ntmps35
    go_wp2_with (go_at_call 24; refine hC.out.mono ?_; rintro r w2 ⟨rfl, ht2⟩)
    go_ret2
    exact ⟨rfl, ht2⟩

/-- A number squared so many times. -/
def sqN (x : Int) (n : Nat) : Int := x ^ (1 * 2 ^ n) % PP

theorem sqE_n (e : El) (n : Nat) : (sqE e n).val % PP = sqN e.val n := sq_pow (pow_one_mod e.val) n

theorem sqN_zero (x : Int) : sqN x 0 = x % PP := by
  unfold sqN
  rw [Nat.pow_zero, Nat.mul_one, ← pow_one_mod]

theorem sqN_succ (x : Int) (n : Nat) : sqN x (n + 1) = sqN x n * sqN x n % PP := by
  unfold sqN
  rw [Nat.pow_succ, ← Nat.mul_assoc, Nat.mul_two, Int.pow_add, Int.mul_emod]

def sqR (a : ByteArray) (n : Int) : Value := if chkC a ≠ 0 then errV (chkC a) else if n < 0 ∨ 300 < n then errV 1 else okV (sqN (dec a) n.toNat)

set_option maxRecDepth 100000 in
set_option maxHeartbeats 1600000 in
theorem Square_any (w : World) (a : ByteArray) (n : Int) : Calls Try.prog 42 #[.string a, .int .i64 n] w fun r w' => r = .returned (sqR a n) ∧ Touch Nothing w w' := by
  have hC := Lib.hid (Check_any w a)
  unfold sqR
  by_cases hz : chkC a = 0
  · rw [if_neg (by simpa using hz)]
    rw [hz] at hC
    by_cases hn : n < 0 ∨ 300 < n
    · rw [if_pos hn]
      unfold errV
      replace hz := Lib.hid hz
      rcases hn with hn | hn
      · have d0 : decide (n < 0) = true := by simpa using hn
        go_enter Try.func42, Try.ntmps42
        go_wp2_with (go_at_call 24; refine hC.out.mono ?_; rintro r w2 ⟨rfl, ht2⟩)
        go_ret2
        exact ⟨rfl, ht2⟩
      · have d0 : decide (n < 0) = false := by simp; omega
        have d1 : decide (300 < n) = true := by simpa using hn
        go_enter Try.func42, Try.ntmps42
        go_wp2_with (go_at_call 24; refine hC.out.mono ?_; rintro r w2 ⟨rfl, ht2⟩)
        go_ret2
        exact ⟨rfl, ht2⟩
    · rw [if_neg hn]
      unfold okV
      have d0 : decide (n < 0) = false := by simp; omega
      have d1 : decide (300 < n) = false := by simp; omega
      obtain ⟨h32, had⟩ := wrong_zero (l := [a]) (by unfold wrongC; rw [if_neg (by simpa using hz)]; rfl) a (by simp)
      obtain ⟨m, rfl⟩ := Int.eq_ofNat_of_zero_le (show 0 ≤ n by omega)
      rw [Int.toNat_natCast]
      have hm : m ≤ 1000000 := by omega
      obtain ⟨f, hfv⟩ : ∃ f, f = canE (dec a % 57896044618658097711785492504343953926634992332820282019728792003956564819968) := ⟨_, rfl⟩
      have ff : f.Fine := by rw [hfv]; exact canE_fine _
      have fv : f.val = dec a := by rw [hfv]; exact load_val a had
      obtain ⟨i, hi⟩ : ∃ i, i = sqE f m := ⟨_, rfl⟩
      have fi : i.Fine := by rw [hi]; exact sqE_fine ff m
      have iv : i.val % PP = sqN (dec a) m := by rw [hi, sqE_n, fv]
      obtain ⟨fin, hfin⟩ : ∃ x, x = sqN (dec a) m := ⟨_, rfl⟩
      rw [← hfin] at iv ⊢
      have hT := fun w => text_any w i (fine63 fi)
      rw [iv] at hT
      have hin : elV i = .agg #[.int .u64 i.a0, .int .u64 i.a1, .int .u64 i.a2, .int .u64 i.a3, .int .u64 i.a4] := rfl
      rw [hin] at hT
      clear hin
      replace hT := Lib.hid hT
      replace hfin := Lib.hid hfin
      replace hi := Lib.hid hi
      replace hz := Lib.hid hz
      replace h32 := Lib.hid h32
      replace hfv := Lib.hid hfv
      replace fv := Lib.hid fv
      replace iv := Lib.hid iv
      replace ff := Lib.hid ff
      replace fi := Lib.hid fi
      clear had
      go_enter Try.func42, Try.ntmps42
      go_wp2_with (first | (go_at_call 24; refine hC.out.mono ?_; rintro r w2 ⟨rfl, ht2⟩) | (go_at_call 58; refine (load_to _ a h32.out f hfv.out).mono ?_; rintro r w3 ⟨rfl, ht3⟩) | (go_at_call 75; refine (squared_to _ f i m _ hi.out ff.out hm rfl).mono ?_; rintro r w4 ⟨rfl, ht4⟩) | (go_at_call 57; refine (hT.out _).mono ?_; rintro r w5 ⟨rfl, ht5⟩))
      go_ret2
      exact ⟨rfl, ((ht2.trans' ht3).trans' ht4).trans' ht5⟩
  · rw [if_pos hz]
    unfold errV
    obtain ⟨q, hq⟩ : ∃ q, q = chkC a := ⟨_, rfl⟩
    rw [← hq] at hC hz ⊢
    have hqb : (q == 0) = false := by simpa using hz
    replace hz := Lib.hid hz
    replace hq := Lib.hid hq
    go_enter Try.func42, Try.ntmps42
    go_wp2_with (go_at_call 24; refine hC.out.mono ?_; rintro r w2 ⟨rfl, ht2⟩)
    go_ret2
    exact ⟨rfl, ht2⟩

end Go.Proofs.Ytfnmnmjpcamkiaa
