/-
  Layer 23: a ledger that the call itself made (Own); the chapter's example (works).
-/
import Derived.Test.YtikjcobdddjlbaaSml
namespace Go.Proofs.Ytikjcobdddjlbaa
open Go.RowKit
set_option linter.unusedVariables false
set_option linter.unusedSimpArgs false

/-- The call's own ledger in block g: nothing below B has turned since w0. -/
structure Own (B g : Nat) (s : Lg) (w0 w : World) : Prop where
  rd : ∃ sv, Led w g s sv ∧ ∀ k, sv.ownBlock = some k → B ≤ k
  hb : Below B w0 w
  hg : B ≤ g
  hB : B ≤ w.heap.size

theorem Own.step {B g : Nat} {s s' : Lg} {w0 w w' : World} {sv : Value} (h : Own B g s w0 w) (hs : ∀ k, sv.ownBlock = some k → B ≤ k) (hp : LedPost w g sv s' w') : Own B g s' w0 w' := by
  obtain ⟨sv', q1, q2, q3⟩ := hp
  have hB := h.hB
  refine ⟨⟨sv', q1, fun k hk => (q3 k hk).elim (hs k) fun q => by omega⟩, h.hb.trans (q2.below h.hB fun k hk q => ?_), h.hg, Nat.le_trans h.hB q2.size⟩
  rcases q with q | q
  · have := h.hg; omega
  · have := hs k q; omega

theorem Own.keep {B g : Nat} {s : Lg} {w0 w w' : World} (h : Own B g s w0 w) (ht : Touch Nothing w w') : Own B g s w0 w' := by
  obtain ⟨sv, q1, q2⟩ := h.rd
  exact ⟨⟨sv, q1.touch ht (fun q => q) (fun _ _ q => q), q2⟩, h.hb.trans (ht.below h.hB fun _ _ q => q), h.hg, Nat.le_trans h.hB ht.size⟩

theorem newLg_ok {W D H : Int} (h : mayBe W D H) : (newLg W D H).Ok :=
  ⟨h.1, h.2.1, h.2.2, ⟨by simp [newLg], by simp [newLg]⟩, fun x hx => by simp [newLg] at hx, by simp [newLg]⟩

theorem Own.new (w0 w : World) (B : Nat) (hb : Below B w0 w) (hB : B ≤ w.heap.size) {W D H : Int} (h : mayBe W D H) : Own B w.heap.size (newLg W D H) w0 (w.alloc (ledC (newLg W D H) (.slice none 0 0))) :=
  ⟨⟨_, ⟨heap_alloc_new _ _, World.ownsRow_nil _ _ _ _, by simp [Value.ownBlock], newLg_ok h⟩, fun k hk => by simp [Value.ownBlock] at hk⟩, hb.alloc hB _, hB, by simp; omega⟩

/-- The example's loop, and the ledger ahead of each of its asks. -/
def wkL : List Lp := [⟨⟨(idB 1).toArray⟩, 1, false⟩]
def wkS : Nat → Lg
  | 0 => ⟨10, 5, 0, 1, wkL⟩
  | 1 => ⟨10, 5, 0, 5, wkL⟩
  | 2 => ⟨10, 5, 0, 6, wkL⟩
  | 3 => ⟨10, 5, 0, 15, wkL⟩
  | _ => ⟨10, 5, 0, 16, []⟩
def wkT : Nat → Int
  | 0 => 5
  | 1 => 6
  | 2 => 15
  | _ => 16
def wkN : Nat → Int
  | 1 => 1
  | 2 => 1
  | _ => 0

theorem wk_sent : (newLg 10 5 0).sent 1 ⟨(idB 1).toArray⟩ = (0, wkS 0) := by
  have hz : (⟨(idB 1).toArray⟩ : ByteArray).size = 16 := by decide
  simp [Lg.sent, Lg.move, newLg, hasB, hz, wkS, wkL]

theorem wk_late (k : Nat) (hk : k < 4) : (wkS k).late (wkT k) = ((wkN k, 0), wkS (k + 1)) := by
  match k, hk with
  | 0, _ => simp [Lg.late, Lg.move, wkS, wkT, wkN, wkL, oldAt, lateAt]
  | 1, _ => simp [Lg.late, Lg.move, wkS, wkT, wkN, wkL, oldAt, lateAt]
  | 2, _ => simp [Lg.late, Lg.move, wkS, wkT, wkN, wkL, oldAt, lateAt]
  | 3, _ => simp [Lg.late, Lg.move, wkS, wkT, wkN, wkL, oldAt, lateAt]

theorem Own.alarm {B g : Nat} {s s' : Lg} {w0 w : World} {n t : Int} (h : Own B g s w0 w) (hl : s.late t = ((n, 0), s')) :
    Calls Try.prog 13 #[.pointer (some ⟨g, 0, none⟩), .int .i64 t] w fun e w' => e = .returned (.tuple #[.bool (decide (s.H < n)), .int .i64 0]) ∧ Own B g s' w0 w' ∧ Below B w w' := by
  obtain ⟨sv, q1, q2⟩ := h.rd
  refine (Alarm_any q1 t).mono fun e w' hp => ?_
  rw [hl] at hp
  refine ⟨hp.1, h.step q2 hp.2, ?_⟩
  obtain ⟨_, _, ht, _⟩ := hp.2
  refine ht.below h.hB fun k hk q => ?_
  rcases q with q | q
  · have := h.hg; omega
  · have := q2 k q; omega

/-- The call's own ledger, and a block beside it that nobody turns. -/
structure Beside (B g X : Nat) (o : Obj) (s : Lg) (w0 w : World) : Prop where
  rd : ∃ sv, Led w g s sv ∧ ∀ k, sv.ownBlock = some k → B ≤ k ∧ k ≠ X
  hb : Below B w0 w
  hg : B ≤ g ∧ g ≠ X
  hB : B ≤ w.heap.size ∧ X < w.heap.size
  hx : w.heap[X]? = some o

theorem Beside.step {B g X : Nat} {o : Obj} {s s' : Lg} {w0 w w' : World} {sv : Value} (h : Beside B g X o s w0 w) (hs : ∀ k, sv.ownBlock = some k → B ≤ k ∧ k ≠ X) (hp : LedPost w g sv s' w') : Beside B g X o s' w0 w' := by
  obtain ⟨sv', q1, q2, q3⟩ := hp
  have hB := h.hB
  have hsz := q2.size
  have hg := h.hg
  refine ⟨⟨sv', q1, fun k hk => (q3 k hk).elim (hs k) fun q => ⟨by omega, by omega⟩⟩, h.hb.trans (q2.below h.hB.1 fun k hk q => ?_), h.hg, by omega, q2.heap h.hx fun q => ?_⟩
  · rcases q with q | q
    · omega
    · have := hs k q; omega
  · rcases q with q | q
    · exact hg.2 q.symm
    · exact (hs _ q).2 rfl

theorem Own.beside {B g : Nat} {s : Lg} {w0 w : World} (h : Own B g s w0 w) (o : Obj) : Beside B g w.heap.size o s w0 (w.alloc o) := by
  obtain ⟨sv, q1, q2⟩ := h.rd
  have hB := h.hB
  have hlt := lt_of_heap q1.blk
  have ht := (Touch.refl Nothing w).alloc o
  exact ⟨⟨sv, q1.touch ht (fun q => q) (fun _ _ q => q), fun k hk => ⟨q2 k hk, by have := (q1.own.lt k hk).2; omega⟩⟩, h.hb.alloc hB _, ⟨h.hg, by omega⟩, by simp; omega, heap_alloc_new _ _⟩

theorem Beside.alarm {B g X : Nat} {o : Obj} {s s' : Lg} {w0 w : World} {n t : Int} (h : Beside B g X o s w0 w) (hl : s.late t = ((n, 0), s')) :
    Calls Try.prog 13 #[.pointer (some ⟨g, 0, none⟩), .int .i64 t] w fun e w' => e = .returned (.tuple #[.bool (decide (s.H < n)), .int .i64 0]) ∧ Beside B g X o s' w0 w' := by
  obtain ⟨sv, q1, q2⟩ := h.rd
  refine (Alarm_any q1 t).mono fun e w' hp => ?_
  rw [hl] at hp
  exact ⟨hp.1, h.step q2 hp.2⟩

set_option maxRecDepth 100000 in
set_option maxHeartbeats 3200000 in
theorem works_any (w : World) : Calls Try.prog 7 #[] w fun e w' => e = .returned (.bool true) ∧ Below w.heap.size w w' := by
  have h0 := Lib.hid (Own.new w w w.heap.size (Below.refl _ _) (Nat.le_refl _) (show mayBe 10 5 0 from ⟨⟨by decide, by decide⟩, ⟨by decide, by decide⟩, by decide, by decide⟩))
  have hN := Lib.hid (new_yes w 10 5 0 ⟨⟨by decide, by decide⟩, ⟨by decide, by decide⟩, by decide, by decide⟩)
  obtain ⟨i1, hi1⟩ : ∃ i1 : ByteArray, i1 = ⟨(idB 1).toArray⟩ := ⟨_, rfl⟩
  replace hi1 := Lib.hid hi1
  go_enter Try.func7, Try.ntmps7
  go_upto_region 4 with (first
    | (go_at_call 9; refine hN.out.mono ?_; rintro e w1 ⟨rfl, rfl⟩)
    | (go_at_call 11; refine (id_any _ 1 (by decide)).mono ?_; rw [← hi1.out]; rintro e w2 ⟨rfl, ht2⟩; have h2 := h0.out.keep ht2; obtain ⟨sv2, hl2, hs2⟩ := h2.rd; replace hs2 := Lib.hid hs2)
    | (go_at_call 10; refine (Sent_any hl2 1 i1 (by rw [hi1.out]; decide)).mono ?_; rw [hi1.out, wk_sent]; rintro e w3 ⟨rfl, hp3⟩; have h3 := h2.step hs2.out hp3))
  clear hN h0 h2 hl2 hs2 hp3
  have h4 := Lib.hid (h3.beside (.cells #[.int .i64 5, .int .i64 6, .int .i64 15, .int .i64 16] 3))
  go_wp2
  go_loopw [25] (fun iv wr => ∃ k : Nat, k ≤ 4 ∧ iv = .int .i64 (k : Int) ∧ Beside w.heap.size w.heap.size w3.heap.size (.cells #[.int .i64 5, .int .i64 6, .int .i64 15, .int .i64 16] 3) (wkS k) w wr) (fun iv _ => 4 - (intOf iv).toNat)
  case atStart => exact ⟨0, by omega, rfl, h4.out⟩
  case round =>
    obtain ⟨k, hk, rfl, hb⟩ := hrel
    clear h4
    by_cases hlt : k < 4
    · have hA := hb.alarm (wk_late k hlt)
      have cs := cell_blk hb.hx k
      have hkI : (k : Int) < 4 := by omega
      obtain rfl | rfl | rfl | rfl : k = 0 ∨ k = 1 ∨ k = 2 ∨ k = 3 := by omega
      · rw [show decide ((wkS 0).H < wkN 0) = false by decide] at hA
        replace hA := Lib.hid hA
        replace cs := cs.trans (rfl : _ = some (Value.int .i64 5))
        go_wp2_with (go_at_call 13; refine hA.out.mono ?_; rintro e w5 ⟨rfl, hb5⟩)
        exact ⟨⟨1, by omega, by simp, hb5⟩, by simp [intOf]⟩
      · rw [show decide ((wkS 1).H < wkN 1) = true by decide] at hA
        replace hA := Lib.hid hA
        replace cs := cs.trans (rfl : _ = some (Value.int .i64 6))
        go_wp2_with (go_at_call 13; refine hA.out.mono ?_; rintro e w5 ⟨rfl, hb5⟩)
        exact ⟨⟨2, by omega, by simp, hb5⟩, by simp [intOf]⟩
      · rw [show decide ((wkS 2).H < wkN 2) = true by decide] at hA
        replace hA := Lib.hid hA
        replace cs := cs.trans (rfl : _ = some (Value.int .i64 15))
        go_wp2_with (go_at_call 13; refine hA.out.mono ?_; rintro e w5 ⟨rfl, hb5⟩)
        exact ⟨⟨3, by omega, by simp, hb5⟩, by simp [intOf]⟩
      · rw [show decide ((wkS 3).H < wkN 3) = false by decide] at hA
        replace hA := Lib.hid hA
        replace cs := cs.trans (rfl : _ = some (Value.int .i64 16))
        go_wp2_with (go_at_call 13; refine hA.out.mono ?_; rintro e w5 ⟨rfl, hb5⟩)
        exact ⟨⟨4, by omega, by simp, hb5⟩, by simp [intOf]⟩
    · obtain rfl : k = 4 := by omega
      obtain ⟨sv, hl, hs⟩ := hb.rd
      have hO := Open_any hl
      rw [show (wkS 4).l.countP openAt = 0 from rfl] at hO
      replace hO := Lib.hid hO
      go_wp2_with (go_at_call 14; refine hO.out.mono ?_; rintro e w5 ⟨rfl, ht5⟩)
      go_ret
      exact ⟨rfl, hb.hb.trans (ht5.below hb.hB.1 fun _ _ q => q)⟩

end Go.Proofs.Ytikjcobdddjlbaa
