/-
  LoopsForget: the walk.
-/
import Derived.Test.YtikjcobdddjlbaaFgt
namespace Go.Proofs.Ytikjcobdddjlbaa
open Go.RowKit
set_option linter.unusedVariables false
set_option linter.unusedSimpArgs false

theorem Own.sent {B g : Nat} {s s' : Lg} {w0 w : World} {t e0 : Int} {id : ByteArray} (h : Own B g s w0 w) (hz : id.size ≤ 9223372036854775807) (hl : s.sent t id = (e0, s')) :
    Calls Try.prog 10 #[.pointer (some ⟨g, 0, none⟩), .int .i64 t, .string id] w fun e w' => e = .returned (.int .i64 e0) ∧ Own B g s' w0 w' := by
  obtain ⟨sv, q1, q2⟩ := h.rd
  refine (Sent_any q1 t id hz).mono fun e w' hp => ?_
  rw [hl] at hp
  exact ⟨hp.1, h.step q2 hp.2⟩

theorem Own.back {B g : Nat} {s s' : Lg} {w0 w : World} {t e0 : Int} {id : ByteArray} (h : Own B g s w0 w) (hl : s.back t id = (e0, s')) :
    Calls Try.prog 12 #[.pointer (some ⟨g, 0, none⟩), .int .i64 t, .string id] w fun e w' => e = .returned (.int .i64 e0) ∧ Own B g s' w0 w' := by
  obtain ⟨sv, q1, q2⟩ := h.rd
  refine (Back_any q1 t id).mono fun e w' hp => ?_
  rw [hl] at hp
  exact ⟨hp.1, h.step q2 hp.2⟩

theorem Own.open {B g : Nat} {s : Lg} {w0 w : World} {k : Nat} (h : Own B g s w0 w) (hl : s.l.countP openAt = k) :
    Calls Try.prog 14 #[.pointer (some ⟨g, 0, none⟩)] w fun e w' => e = .returned (.int .i64 (k : Int)) ∧ Own B g s w0 w' := by
  obtain ⟨sv, q1, q2⟩ := h.rd
  refine (Open_any q1).mono fun e w' hp => ?_
  rw [hl] at hp
  exact ⟨hp.1, h.keep hp.2⟩

set_option maxRecDepth 100000 in
set_option maxHeartbeats 3200000 in
theorem forget_walk (w : World) (p q r n t : Int) (hp : -9223372036854775808 ≤ p ∧ p ≤ 9223372036854775807) (hq : -9223372036854775808 ≤ q ∧ q ≤ 9223372036854775807) (hn : -9223372036854775808 ≤ n ∧ n ≤ 9223372036854775807) (ht : -9223372036854775808 ≤ t ∧ t ≤ 9223372036854775807) :
    Calls Try.prog 5 #[.agg #[.int .i64 p, .int .i64 q, .int .i64 r], .int .i64 n, .int .i64 t] w fun e w' => e = .returned (.bool true) ∧ Below w.heap.size w w' := by
  obtain ⟨W, hW⟩ : ∃ W, W = 1 + p % 50 := ⟨_, rfl⟩
  obtain ⟨D, hD⟩ : ∃ D, D = 1 + q % 30 := ⟨_, rfl⟩
  obtain ⟨a, ha⟩ : ∃ a, a = t % 1000 := ⟨_, rfl⟩
  have hpm : 0 ≤ p % 50 ∧ p % 50 < 50 := by omega
  have hqm : 0 ≤ q % 30 ∧ q % 30 < 30 := by omega
  have aW : ∀ w2, Calls Try.prog 8 #[.int .i64 p, .int .i64 50] w2 fun e w' => e = .returned (.int .i64 (p % 50)) ∧ w' = w2 := fun w2 => among_any w2 p 50 hp ⟨by decide, by decide⟩
  have aD : ∀ w2, Calls Try.prog 8 #[.int .i64 q, .int .i64 30] w2 fun e w' => e = .returned (.int .i64 (q % 30)) ∧ w' = w2 := fun w2 => among_any w2 q 30 hq ⟨by decide, by decide⟩
  replace aW := Lib.hid aW
  replace aD := Lib.hid aD
  replace hW := Lib.hid hW
  replace hD := Lib.hid hD
  replace ha := Lib.hid ha
  go_enter Try.func5, Try.ntmps5
  go_upto_region 3 with (go_at_call 7; refine (works_any _).mono ?_; rintro e w1 ⟨rfl, hb1⟩; have hbx := (Touch.ofBelow0 hb1).heap (heap_alloc_new w _) (fun q => q); have c0 := cell_blk hbx 0; have c1 := cell_blk hbx 1)
  have hWi := IntWalk.i64_in (1 + p % 50) (by omega)
  have hDi := IntWalk.i64_in (1 + q % 30) (by omega)
  go_cut [7, 8] (fun v u wx => v = .int .i64 W ∧ u = .int .i64 D ∧ Touch Nothing w1 wx)
  case first =>
    go_quiet ((first | (go_at_call_of 8 (Value.int IntKind.i64 p); exact Calls.quiet_of_same (aW.out _)) | (go_at_call_of 8 (Value.int IntKind.i64 q); exact Calls.quiet_of_same (aD.out _))))
    go_wp2_with fail
    go_meet
    exact ⟨by rw [hW.out], by rw [hD.out], (Touch.refl _ _).drewN _⟩
  case rest =>
    obtain ⟨rfl, rfl, ht2⟩ := hcut
    have hbc : Below w.heap.size w wc := ((Below.refl _ w).alloc (Nat.le_refl _) _).trans ((hb1.trans (ht2.below hb1.size fun _ _ q => q)).mono (by simp))
    have W1 : 1 ≤ W ∧ W ≤ 50 := by have := hW.out; omega
    have D1 : 1 ≤ D ∧ D ≤ 30 := by have := hD.out; omega
    have a1 : 0 ≤ a ∧ a < 1000 := by have := ha.out; omega
    have hmay : mayBe W D 0 := ⟨⟨by omega, by omega⟩, ⟨by omega, by omega⟩, by omega, by omega⟩
    have aN := fun w2 => among_any w2 n 100 hn ⟨by decide, by decide⟩
    have aT := fun w2 => among_any w2 t 1000 ht ⟨by decide, by decide⟩
    rw [← ha.out] at aT
    obtain ⟨k, hk⟩ : ∃ k : Nat, n % 100 = (k : Int) := ⟨(n % 100).toNat, by omega⟩
    have hkm : k ≤ 1048576 := by omega
    rw [hk] at aN
    obtain ⟨ib, hib⟩ : ∃ ib : ByteArray, ib = ⟨(idB k).toArray⟩ := ⟨_, rfl⟩
    have hI := fun w2 => id_any w2 k hkm
    rw [← hib] at hI
    have hz : ib.size = 16 := by rw [hib]; rfl
    have o := Own.new w wc w.heap.size hbc hbc.size hmay
    have hN := new_yes wc W D 0 hmay
    have g1 := Lib.hid (fg1 W1 D1 a1 hz)
    have g2 := Lib.hid (fg2 W1 D1 a1 hz)
    have g3 := Lib.hid (fg3 W1 D1 a1 hz)
    have g4 := Lib.hid (fg4 W1 D1 a1 hz)
    have g5 := Lib.hid (fg5 W1 D1 a1 hz)
    have hzz := Lib.hid (show ib.size ≤ 9223372036854775807 by omega)
    replace aN := Lib.hid aN
    replace aT := Lib.hid aT
    replace hI := Lib.hid hI
    replace hz := Lib.hid hz
    replace hib := Lib.hid hib
    replace hk := Lib.hid hk
    replace hN := Lib.hid hN
    clear hWi hDi c0 c1 hpm hqm aW aD hW hD ha
    go_wp2_with (first
      | (go_at_call 9; refine hN.out.mono ?_; rintro e w3 ⟨rfl, rfl⟩)
      | (go_at_call_of 8 (Value.int IntKind.i64 t); refine (aT.out _).mono ?_; rintro e w4 ⟨rfl, rfl⟩)
      | (go_at_call_of 8 (Value.int IntKind.i64 n); refine (aN.out _).mono ?_; rintro e w4 ⟨rfl, rfl⟩)
      | (go_at_call 11; refine (hI.out _).mono ?_; rintro e w5 ⟨rfl, ht5⟩; replace o := o.keep ht5)
      | (go_at_call_of 10 (Value.int IntKind.i64 a); refine (o.sent hzz.out g1.out).mono ?_; clear o; rintro e w6 ⟨rfl, o⟩)
      | (go_at_call 10; refine (o.sent hzz.out g2.out).mono ?_; clear o; rintro e w6 ⟨rfl, o⟩)
      | (go_at_call 10; refine (o.sent hzz.out g4.out).mono ?_; clear o; rintro e w6 ⟨rfl, o⟩)
      | (go_at_call 12; refine (o.back g3.out).mono ?_; clear o; rintro e w6 ⟨rfl, o⟩)
      | (go_at_call 12; refine (o.back g5.out).mono ?_; clear o; rintro e w6 ⟨rfl, o⟩)
      | (go_at_call 14; refine (o.open rfl).mono ?_; clear o; rintro e w6 ⟨rfl, o⟩))
    go_ret
    exact ⟨rfl, o.hb⟩

theorem LoopsForget_walk (W : World) (p : Int) (hp : -9223372036854775808 ≤ p ∧ p ≤ 9223372036854775807) (q : Int) (hq : -9223372036854775808 ≤ q ∧ q ≤ 9223372036854775807) (r : Int) (_ : -9223372036854775808 ≤ r ∧ r ≤ 9223372036854775807)
    (n : Int) (hn : -9223372036854775808 ≤ n ∧ n ≤ 9223372036854775807) (t : Int) (ht : -9223372036854775808 ≤ t ∧ t ≤ 9223372036854775807) :
    Calls Try.prog 5 #[.agg #[.int .i64 p, .int .i64 q, .int .i64 r], .int .i64 n, .int .i64 t] W fun e w' => e = .returned (.bool true) ∧ Below W.heap.size W w' :=
  forget_walk W p q r n t hp hq hn ht

end Go.Proofs.Ytikjcobdddjlbaa
