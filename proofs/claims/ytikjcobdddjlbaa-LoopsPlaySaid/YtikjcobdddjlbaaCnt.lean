/-
  Layer 23: count, at its two closures; Open, Late, Alarm, Now; find.
-/
import Derived.Test.YtikjcobdddjlbaaLed
namespace Go.Proofs.Ytikjcobdddjlbaa
open Go.RowKit
set_option linter.unusedVariables false
set_option linter.unusedSimpArgs false

theorem count_open {w : World} {g : Nat} {s : Lg} {sv : Value} (h : Led w g s sv) :
    Calls Try.prog 25 #[.pointer (some ⟨g, 0, none⟩), .func (.func 26) #[.pointer (some ⟨g, 0, none⟩)] #[]] w fun e w' => e = .returned (.int .i64 ((s.l.countP openAt : Nat) : Int)) ∧ Touch Nothing w w' := by
  obtain ⟨av, cv, rfl⟩ := owns_slice h.own
  have c4 : w.cell? ⟨g, 4, none⟩ = some (.slice av s.l.length cv) := (cell_blk h.blk 4).trans rfl
  have hlen := h.ok.len
  obtain ⟨n, hn⟩ : ∃ n, n = s.l.length := ⟨_, rfl⟩
  rw [← hn] at h c4 hlen
  replace hn := Lib.hid hn
  replace h := Lib.hid h
  obtain ⟨tot, htot⟩ : ∃ tot, tot = s.l.countP openAt := ⟨_, rfl⟩
  rw [← htot]
  replace htot := Lib.hid htot
  go_enter Try.func25, Try.ntmps25
  go_wp2
  go_loopw [5, 13] (fun nv iv wr => ∃ (i k : Nat), i ≤ n ∧ k ≤ i ∧ nv = .int .i64 (k : Int) ∧ iv = .int .i64 (i : Int) ∧ Touch Nothing w wr ∧ Hid (k = (s.l.take i).countP openAt)) (fun _ iv _ => n - (intOf iv).toNat)
  case atStart => exact ⟨0, 0, Nat.zero_le _, Nat.le_refl _, rfl, rfl, Touch.refl _ _, Lib.hid (by simp)⟩
  case round =>
    obtain ⟨i, k, hi, hki, rfl, rfl, ht, hk⟩ := hrel
    by_cases hin : i < n
    · have hil : i < s.l.length := by have := hn.out; omega
      obtain ⟨gb, cap, hv, ⟨c0, c1, c2⟩, hf⟩ := row_cells (ht.owns h.out.own (fun _ _ q => q)) hil
      cases hv
      obtain ⟨x, hx⟩ : ∃ x, x = s.l[i] := ⟨_, rfl⟩
      rw [← hx] at c0 c1 c2
      obtain ⟨b, hbv⟩ : ∃ b, b = openAt x := ⟨_, rfl⟩
      have hO : ∀ w2, Touch Nothing w w2 → Calls Try.prog 26 #[.pointer (some ⟨g, 0, none⟩), lpV x] w2 fun e w' => e = .returned (.bool b) ∧ Touch Nothing w2 w' := fun w2 h2 => by rw [hbv]; exact open_any w2 g x
      have hk1 : (s.l.take (i + 1)).countP openAt = (s.l.take i).countP openAt + (if b then 1 else 0) := by
        rw [List.take_add_one, List.getElem?_eq_getElem hil, List.countP_append, hbv, hx]
        simp [List.countP_cons]
      replace hO := Lib.hid hO
      replace hbv := Lib.hid hbv
      replace hx := Lib.hid hx
      replace hk1 := Lib.hid hk1
      clear hf
      cases b
      · go_wp2_with (go_at_call 26; refine (hO.out _ (ht.alloc _)).mono ?_; rintro e w2 ⟨rfl, ht2⟩)
        go_roundw
        case rel =>
          exact ⟨i + 1, k, by omega, by omega, rfl, by simp, (ht.alloc _).none ht2, Lib.hid (by rw [hk1.out, hk.out]; simp)⟩
        case measure => simp [intOf]; omega
      · go_wp2_with (go_at_call 26; refine (hO.out _ (ht.alloc _)).mono ?_; rintro e w2 ⟨rfl, ht2⟩)
        go_roundw
        case rel =>
          exact ⟨i + 1, k + 1, by omega, by omega, by simp, by simp, (ht.alloc _).none ht2, Lib.hid (by rw [hk1.out, hk.out]; simp)⟩
        case measure => simp [intOf]; omega
    · go_wp2
      go_ret
      have : i = s.l.length := by have := hn.out; omega
      subst this
      have e := hk.out
      rw [List.take_length, ← htot.out] at e
      rw [e]
      exact ⟨rfl, ht⟩

theorem count_late {w : World} {g : Nat} {s : Lg} {sv : Value} (h : Led w g s sv) :
    Calls Try.prog 25 #[.pointer (some ⟨g, 0, none⟩), .func (.func 27) #[.pointer (some ⟨g, 0, none⟩)] #[]] w fun e w' => e = .returned (.int .i64 ((s.l.countP (lateAt s.D s.now) : Nat) : Int)) ∧ Touch Nothing w w' := by
  obtain ⟨av, cv, rfl⟩ := owns_slice h.own
  have c4 : w.cell? ⟨g, 4, none⟩ = some (.slice av s.l.length cv) := (cell_blk h.blk 4).trans rfl
  have hlen := h.ok.len
  obtain ⟨n, hn⟩ : ∃ n, n = s.l.length := ⟨_, rfl⟩
  rw [← hn] at h c4 hlen
  replace hn := Lib.hid hn
  replace h := Lib.hid h
  obtain ⟨tot, htot⟩ : ∃ tot, tot = s.l.countP (lateAt s.D s.now) := ⟨_, rfl⟩
  rw [← htot]
  replace htot := Lib.hid htot
  go_enter Try.func25, Try.ntmps25
  go_wp2
  go_loopw [5, 13] (fun nv iv wr => ∃ (i k : Nat), i ≤ n ∧ k ≤ i ∧ nv = .int .i64 (k : Int) ∧ iv = .int .i64 (i : Int) ∧ Touch Nothing w wr ∧ Hid (k = (s.l.take i).countP (lateAt s.D s.now))) (fun _ iv _ => n - (intOf iv).toNat)
  case atStart => exact ⟨0, 0, Nat.zero_le _, Nat.le_refl _, rfl, rfl, Touch.refl _ _, Lib.hid (by simp)⟩
  case round =>
    obtain ⟨i, k, hi, hki, rfl, rfl, ht, hk⟩ := hrel
    by_cases hin : i < n
    · have hil : i < s.l.length := by have := hn.out; omega
      obtain ⟨gb, cap, hv, ⟨c0, c1, c2⟩, hf⟩ := row_cells (ht.owns h.out.own (fun _ _ q => q)) hil
      cases hv
      obtain ⟨x, hx⟩ : ∃ x, x = s.l[i] := ⟨_, rfl⟩
      rw [← hx] at c0 c1 c2
      obtain ⟨b, hbv⟩ : ∃ b, b = (lateAt s.D s.now) x := ⟨_, rfl⟩
      have hO : ∀ w2, Touch Nothing w w2 → Calls Try.prog 27 #[.pointer (some ⟨g, 0, none⟩), lpV x] w2 fun e w' => e = .returned (.bool b) ∧ Touch Nothing w2 w' := fun w2 h2 => by rw [hbv]; exact late_any w2 g s _ (h2.heap h.out.blk (fun q => q)) h.out.ok x
      have hk1 : (s.l.take (i + 1)).countP (lateAt s.D s.now) = (s.l.take i).countP (lateAt s.D s.now) + (if b then 1 else 0) := by
        rw [List.take_add_one, List.getElem?_eq_getElem hil, List.countP_append, hbv, hx]
        simp [List.countP_cons]
      replace hO := Lib.hid hO
      replace hbv := Lib.hid hbv
      replace hx := Lib.hid hx
      replace hk1 := Lib.hid hk1
      clear hf
      cases b
      · go_wp2_with (go_at_call 27; refine (hO.out _ (ht.alloc _)).mono ?_; rintro e w2 ⟨rfl, ht2⟩)
        go_roundw
        case rel =>
          exact ⟨i + 1, k, by omega, by omega, rfl, by simp, (ht.alloc _).none ht2, Lib.hid (by rw [hk1.out, hk.out]; simp)⟩
        case measure => simp [intOf]; omega
      · go_wp2_with (go_at_call 27; refine (hO.out _ (ht.alloc _)).mono ?_; rintro e w2 ⟨rfl, ht2⟩)
        go_roundw
        case rel =>
          exact ⟨i + 1, k + 1, by omega, by omega, by simp, by simp, (ht.alloc _).none ht2, Lib.hid (by rw [hk1.out, hk.out]; simp)⟩
        case measure => simp [intOf]; omega
    · go_wp2
      go_ret
      have : i = s.l.length := by have := hn.out; omega
      subst this
      have e := hk.out
      rw [List.take_length, ← htot.out] at e
      rw [e]
      exact ⟨rfl, ht⟩

theorem Open_any {w : World} {g : Nat} {s : Lg} {sv : Value} (h : Led w g s sv) :
    Calls Try.prog 14 #[.pointer (some ⟨g, 0, none⟩)] w fun e w' => e = .returned (.int .i64 ((s.l.countP openAt : Nat) : Int)) ∧ Touch Nothing w w' := by
  have hC := Lib.hid (count_open h)
  clear h
  go_enter Try.func14, Try.ntmps14
  go_wp2_with (go_at_call 25; refine hC.out.mono ?_; rintro e w2 ⟨rfl, ht2⟩)
  go_ret
  exact ⟨rfl, ht2⟩

theorem Now_any {w : World} {g : Nat} {s : Lg} {sv : Value} (h : Led w g s sv) :
    Calls Try.prog 20 #[.pointer (some ⟨g, 0, none⟩)] w fun e w' => e = .returned (.int .i64 s.now) ∧ w' = w := by
  have c3 : w.cell? ⟨g, 3, none⟩ = some (.int .i64 s.now) := (cell_blk h.blk 3).trans rfl
  clear h
  go_enter Try.func20, Try.ntmps20
  go_wp2
  go_ret
  exact ⟨rfl, rfl⟩

/-- Late: what it tells, and the ledger behind it. -/
def Lg.late (s : Lg) (t : Int) : (Int × Int) × Lg :=
  match s.move t with
  | (e, s') => ((if e = 0 then ((s'.l.countP (lateAt s'.D s'.now) : Nat) : Int) else 0, e), s')

theorem Late_any {w : World} {g : Nat} {s : Lg} {sv : Value} (h : Led w g s sv) (t : Int) :
    Calls Try.prog 15 #[.pointer (some ⟨g, 0, none⟩), .int .i64 t] w fun e w' => e = .returned (.tuple #[.int .i64 (s.late t).1.1, .int .i64 (s.late t).1.2]) ∧ LedPost w g sv (s.late t).2 w' := by
  have hM := move_any h t
  unfold Lg.late
  obtain ⟨⟨e0, s1⟩, hm⟩ : ∃ r, s.move t = r := ⟨_, rfl⟩
  rw [hm] at hM ⊢
  simp only [] at hM ⊢
  replace hM := Lib.hid hM
  clear hm h
  by_cases he : e0 = 0
  · subst he
    rw [if_pos rfl]
    go_enter Try.func15, Try.ntmps15
    go_wp2_with (first
      | (go_at_call 23; refine hM.out.mono ?_; rintro e w2 ⟨rfl, hp⟩; obtain ⟨sv2, hl2, hp2, hp3⟩ := id hp)
      | (go_at_call 25; refine (count_late hl2).mono ?_; rintro e w3 ⟨rfl, ht3⟩))
    go_ret2
    exact ⟨rfl, hp.after ht3⟩
  · rw [if_neg he]
    have hb : (e0 != 0) = true := by simpa using he
    go_enter Try.func15, Try.ntmps15
    go_wp2_with (go_at_call 23; refine hM.out.mono ?_; rintro e w2 ⟨rfl, hp⟩)
    go_ret2
    exact ⟨rfl, hp⟩

end Go.Proofs.Ytikjcobdddjlbaa
