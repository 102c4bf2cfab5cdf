/-
  Layer 1: wrong, Add, Mul, Sub, Inv, Square, walked.
-/
import Derived.Test.YtfnmnmjpcamkiaaRdc
namespace Go.Proofs.Ytfnmnmjpcamkiaa
open Go.RowKit
set_option linter.unusedVariables false
set_option linter.unusedSimpArgs false

/-- What is wrong with elements. -/
def wrongC : List ByteArray → Int
  | [] => 0
  | a :: r => if chkC a ≠ 0 then chkC a else wrongC r

def wrC (l : List ByteArray) : Int := if wrongC l ≠ 0 then wrongC l else if 100 < l.length then 2 else 0

theorem chkC_cases (s : ByteArray) : chkC s = 0 ∨ chkC s = 1 ∨ chkC s = 3 := by
  unfold chkC
  split
  · exact .inr (.inr rfl)
  · split
    · exact .inl rfl
    · exact .inr (.inl rfl)

theorem wrongC_drop (l : List ByteArray) (k : Nat) (h : k < l.length) : wrongC (l.drop k) = if chkC l[k] ≠ 0 then chkC l[k] else wrongC (l.drop (k + 1)) := by
  rw [List.drop_eq_getElem_cons h]
  rfl

set_option maxRecDepth 100000 in
set_option maxHeartbeats 1600000 in
theorem wrong_any (w : World) (a : Option Addr) (c : Nat) (ts : List ByteArray) (h : StrSl w a c ts) (hl : ts.length ≤ 9223372036854775807) :
    Calls Try.prog 62 #[.slice a ts.length c] w fun r w' => r = .returned (.int .i64 (wrC ts)) ∧ Touch Nothing w w' := by
  obtain ⟨wr0, hwr0⟩ : ∃ x, x = wrC ts := ⟨_, rfl⟩
  rw [← hwr0]
  replace hwr0 := Lib.hid hwr0
  have hS := Lib.hid h
  clear h
  go_enter Try.func62, Try.ntmps62
  go_wp2
  go_loopw [8] (fun iv wr => ∃ k : Nat, k ≤ ts.length ∧ iv = .int .i64 (k : Int) ∧ Hid (wrongC (ts.drop k) = wrongC ts) ∧ Touch Nothing w wr) (fun iv _ => ts.length - (intOf iv).toNat)
  case atStart => exact ⟨0, Nat.zero_le _, rfl, Lib.hid rfl, Touch.refl _ _⟩
  case round =>
    obtain ⟨k, hk, rfl, hD, ht⟩ := hrel
    by_cases hlt : k < ts.length
    · obtain ⟨g, o, ha, hc⟩ := hS.out.2 k hlt
      have hcr := ht.cell hc (fun q => q)
      subst ha
      have hCk := Lib.hid (Check_any wr ts[k])
      have hstep := wrongC_drop ts k hlt
      obtain ⟨s, hs⟩ : ∃ s, s = ts[k] := ⟨_, rfl⟩
      rw [← hs] at hcr hCk hstep
      replace hs := Lib.hid hs
      obtain ⟨q, hq⟩ : ∃ q, q = chkC s := ⟨_, rfl⟩
      rw [← hq] at hCk hstep
      replace hq := Lib.hid hq
      clear hc
      have hk0 : (0 : Int) ≤ (k : Int) := by omega
      by_cases hz : q = 0
      · subst hz
        have hstep := Lib.hid hstep
        go_wp2_with (go_at_call 24; refine hCk.out.mono ?_; rintro r w2 ⟨rfl, ht2⟩)
        refine ⟨⟨k + 1, by omega, by simp, Lib.hid ?_, ht.trans' ht2⟩, by simp [intOf]; omega⟩
        rw [← hD.out, hstep.out, if_neg (by simp)]
      · have hqb : (q == 0) = false := by simpa using hz
        have hfin : wr0 = q := by rw [hwr0.out]; unfold wrC; rw [← hD.out, hstep, if_pos hz, if_pos hz]
        replace hstep := Lib.hid hstep
        replace hz := Lib.hid hz
        replace hfin := Lib.hid hfin
        go_wp2_with (go_at_call 24; refine hCk.out.mono ?_; rintro r w2 ⟨rfl, ht2⟩)
        go_ret
        exact ⟨by rw [hfin.out]; rfl, ht.trans' ht2⟩
    · obtain rfl : k = ts.length := by omega
      have h0 : wrongC ts = 0 := by rw [← hD.out, List.drop_length]; rfl
      by_cases h100 : 100 < ts.length
      · have hfin : wr0 = 2 := by rw [hwr0.out]; unfold wrC; rw [h0, if_neg (by simp), if_pos h100]
        replace hfin := Lib.hid hfin
        replace h0 := Lib.hid h0
        go_wp2
        go_ret
        exact ⟨by rw [hfin.out]; rfl, ht⟩
      · have hfin : wr0 = 0 := by rw [hwr0.out]; unfold wrC; rw [h0, if_neg (by simp), if_neg h100]
        replace hfin := Lib.hid hfin
        replace h0 := Lib.hid h0
        go_wp2
        go_ret
        exact ⟨by rw [hfin.out]; rfl, ht⟩

theorem wrong_zero {l : List ByteArray} (h : wrongC l = 0) : ∀ s ∈ l, s.size = 32 ∧ dec s < PP := by
  induction l with
  | nil => simp
  | cons a r ih =>
    unfold wrongC at h
    have ha : chkC a = 0 := by
      by_cases q : chkC a = 0
      · exact q
      · rw [if_pos q] at h; exact h
    rw [ha, if_neg (by simp)] at h
    intro s hs
    rcases List.mem_cons.1 hs with rfl | hs
    · unfold chkC at ha
      split at ha
      · cases ha
      · rename_i hsz
        split at ha
        · rename_i hd; exact ⟨by omega, hd⟩
        · cases ha
    · exact ih h s hs

theorem wrC_zero {l : List ByteArray} (h : wrC l = 0) : (∀ s ∈ l, s.size = 32 ∧ dec s < PP) ∧ l.length ≤ 100 := by
  unfold wrC at h
  have h1 : wrongC l = 0 := by
    by_cases q : wrongC l = 0
    · exact q
    · rw [if_pos q] at h; exact h
  rw [h1, if_neg (by simp)] at h
  refine ⟨wrong_zero h1, ?_⟩
  split at h
  · cases h
  · omega

def sumD : List ByteArray → Int
  | [] => 0
  | a :: r => dec a + sumD r
def mulD : List ByteArray → Int
  | [] => 1
  | a :: r => dec a * mulD r

theorem sumD_append (a b : List ByteArray) : sumD (a ++ b) = sumD a + sumD b := by
  induction a with
  | nil => simp [sumD]
  | cons x r ih => simp only [List.cons_append, sumD, ih]; omega
theorem mulD_append (a b : List ByteArray) : mulD (a ++ b) = mulD a * mulD b := by
  induction a with
  | nil => simp [mulD]
  | cons x r ih => simp only [List.cons_append, mulD, ih, Int.mul_assoc]

def addR (l : List ByteArray) : Value := if wrC l ≠ 0 then errV (wrC l) else okV (sumD l % PP)
def mulR (l : List ByteArray) : Value := if wrC l ≠ 0 then errV (wrC l) else okV (mulD l % PP)

theorem take_one (ts : List ByteArray) (k : Nat) (h : k < ts.length) : ts.take (k + 1) = ts.take k ++ [ts[k]] := List.take_succ_eq_append_getElem h

theorem load_val (s : ByteArray) (hd : dec s < PP) : (canE (dec s % 57896044618658097711785492504343953926634992332820282019728792003956564819968)).val = dec s := by
  rw [canE_val _ (Int.emod_nonneg _ (by decide)) (Int.emod_lt_of_pos _ (by decide)), Int.emod_eq_of_lt (dec_pos s) (by unfold PP at hd; omega)]

theorem sum_step {e f : El} {a b : Int} (he : e.val % PP = a % PP) (hf : f.val = b) : (plusE e f).val % PP = (a + (b + 0)) % PP := by
  rw [plusE_mod, hf, Int.add_emod, he, ← Int.add_emod, Int.add_zero]

theorem load_to (w : World) (s : ByteArray) (hs : s.size = 32) (f : El) (hf : f = canE (dec s % 57896044618658097711785492504343953926634992332820282019728792003956564819968)) :
    Calls Try.prog 58 #[.string s] w fun r w' => r = .returned (.agg #[.int .u64 f.a0, .int .u64 f.a1, .int .u64 f.a2, .int .u64 f.a3, .int .u64 f.a4]) ∧ Touch Nothing w w' := by
  subst hf; exact Load_any w s hs

set_option maxRecDepth 100000 in
set_option maxHeartbeats 1600000 in
theorem Add_any (w : World) (a : Option Addr) (c : Nat) (ts : List ByteArray) (h : StrSl w a c ts) (hl : ts.length ≤ 9223372036854775807) :
    Calls Try.prog 27 #[.slice a ts.length c] w fun r w' => r = .returned (addR ts) ∧ Touch Nothing w w' := by
  have hW := Lib.hid (wrong_any w a c ts h hl)
  by_cases hz : wrC ts = 0
  · have hR : addR ts = okV (sumD ts % PP) := by unfold addR; rw [hz, if_neg (by simp)]
    rw [hR]
    unfold okV
    clear hR
    obtain ⟨fin, hfin⟩ : ∃ x, x = sumD ts % PP := ⟨_, rfl⟩
    rw [← hfin]
    replace hfin := Lib.hid hfin
    obtain ⟨hall, _⟩ := wrC_zero hz
    replace hall := Lib.hid hall
    rw [hz] at hW
    replace hz := Lib.hid hz
    replace h := Lib.hid h
    go_enter Try.func27, Try.ntmps27
    go_upto_region 6 with (go_at_call 62; refine hW.out.mono ?_; rintro r w2 ⟨rfl, ht2⟩)
    have hz0 := heap_alloc_new w2 (elC zE)
    replace hz0 := Lib.hid hz0
    go_loopw [16] (fun iv wr => ∃ k : Nat, k ≤ ts.length ∧ iv = .int .i64 (k : Int) ∧ (∃ e : El, wr.heap[w2.heap.size]? = some (elC e) ∧ e.Fine ∧ e.val % PP = sumD (ts.take k) % PP) ∧ Touch Nothing w wr) (fun iv _ => ts.length - (intOf iv).toNat)
    case atStart => exact ⟨0, Nat.zero_le _, rfl, ⟨zE, hz0.out, one_fine 0 (by omega) (by omega), by rw [List.take_zero]; rfl⟩, ht2.alloc _⟩
    case round =>
      obtain ⟨k, hk, rfl, ⟨e, he, hf, hm⟩, ht⟩ := hrel
      have hsz2 := ht2.size
      by_cases hlt : k < ts.length
      · obtain ⟨g, o, ha, hc⟩ := h.out.2 k hlt
        have hcr := ht.cell hc (fun q => q)
        subst ha
        obtain ⟨h32, hd⟩ := hall.out ts[k] (List.getElem_mem _)
        have htk := take_one ts k hlt
        obtain ⟨s, hs⟩ : ∃ s, s = ts[k] := ⟨_, rfl⟩
        rw [← hs] at hcr h32 hd htk
        obtain ⟨f, hfv⟩ : ∃ f, f = canE (dec s % 57896044618658097711785492504343953926634992332820282019728792003956564819968) := ⟨_, rfl⟩
        have ff : f.Fine := by rw [hfv]; exact canE_fine _
        have fv : f.val = dec s := by rw [hfv]; exact load_val s hd
        have hLd := Lib.hid (load_to wr s h32 f hfv)
        have hst : (plusE e f).val % PP = sumD (ts.take (k + 1)) % PP := by
          rw [htk, sumD_append, sum_step hm fv]; rfl
        have hf2 := Lib.hid (plusE_fine hf ff)
        have hne := lt_of_heap he
        replace hst := Lib.hid hst
        replace hs := Lib.hid hs
        replace hfv := Lib.hid hfv
        replace fv := Lib.hid fv
        replace h32 := Lib.hid h32
        replace htk := Lib.hid htk
        replace hm := Lib.hid hm
        replace he := Lib.hid he
        replace hf := Lib.hid hf
        replace ff := Lib.hid ff
        clear hc hd
        have hk0 : (0 : Int) ≤ (k : Int) := by omega
        go_upto_region 9 with (go_at_call 58; refine hLd.out.mono ?_; rintro r w3 ⟨rfl, ht3⟩)
        have hbx : (w3.alloc (elC f)).heap[w3.heap.size]? = some (elC f) := heap_alloc_new _ _
        have hsx : (w3.alloc (elC f)).heap[w2.heap.size]? = some (elC e) := ((Touch.refl Nothing w3).alloc _).heap (ht3.heap he.out (fun q => q)) (fun q => q)
        have hP := Lib.hid (Plus_any _ _ _ _ _ _ _ hsx hsx hbx hf.out ff.out)
        have hsz3 := ht3.size
        replace hsx := Lib.hid hsx
        replace hbx := Lib.hid hbx
        go_wp2_with (go_at_call 52; refine hP.out.mono ?_; rintro r w4 ⟨rfl, hh4, ht4⟩)
        exact ⟨⟨k + 1, by omega, by simp, ⟨_, hh4, hf2.out, hst.out⟩, ((ht.trans' ht3).alloc _).trans ht4 fun i hi q => by omega⟩, by simp [intOf]; omega⟩
      · obtain rfl : k = ts.length := by omega
        rw [List.take_length, ← hfin.out] at hm
        have hT := Lib.hid (Text_any wr _ e he (fine63 hf))
        rw [hm] at hT
        replace hm := Lib.hid hm
        replace hf := Lib.hid hf
        replace he := Lib.hid he
        go_wp2_with (go_at_call 53; refine hT.out.mono ?_; rintro r w5 ⟨rfl, ht5⟩)
        go_ret2
        exact ⟨rfl, ht.trans' ht5⟩
  · have hR : addR ts = errV (wrC ts) := by unfold addR; rw [if_pos hz]
    rw [hR]
    unfold errV
    clear hR
    obtain ⟨q, hq⟩ : ∃ q, q = wrC ts := ⟨_, rfl⟩
    rw [← hq] at hW hz ⊢
    have hqb : (q == 0) = false := by simpa using hz
    replace hz := Lib.hid hz
    replace hq := Lib.hid hq
    replace h := Lib.hid h
    go_enter Try.func27, Try.ntmps27
    go_wp2_with (go_at_call 62; refine hW.out.mono ?_; rintro r w2 ⟨rfl, ht2⟩)
    go_ret2
    exact ⟨rfl, ht2⟩

end Go.Proofs.Ytfnmnmjpcamkiaa
