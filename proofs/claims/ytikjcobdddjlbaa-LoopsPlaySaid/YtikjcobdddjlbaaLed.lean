/-
  Layer 23: a ledger in a world; move, find.
-/
import Derived.Test.YtikjcobdddjlbaaDel
namespace Go.Proofs.Ytikjcobdddjlbaa
open Go.RowKit
set_option linter.unusedVariables false
set_option linter.unusedSimpArgs false

/-- The ledger in block g reads as s; its row is sv. -/
structure Led (w : World) (g : Nat) (s : Lg) (sv : Value) : Prop where
  blk : w.heap[g]? = some (ledC s sv)
  own : w.ownsRow 0 61 3 sv s.l.length (rowC s.l)
  ne : sv.ownBlock ≠ some g
  ok : s.Ok

def LedPost (w : World) (g : Nat) (sv : Value) (s' : Lg) (w' : World) : Prop :=
  ∃ sv', Led w' g s' sv' ∧ Touch (fun k => k = g ∨ sv.ownBlock = some k) w w' ∧ ∀ k, sv'.ownBlock = some k → sv.ownBlock = some k ∨ w.heap.size ≤ k

theorem Led.touch {F : Nat → Prop} {w w' : World} {g : Nat} {s : Lg} {sv : Value} (h : Led w g s sv) (ht : Touch F w w') (hg : ¬ F g) (hs : ∀ k, sv.ownBlock = some k → ¬ F k) : Led w' g s sv :=
  ⟨ht.heap h.blk hg, ht.owns h.own hs, h.ne, h.ok⟩

theorem Led.stay {w w' : World} {g : Nat} {s : Lg} {sv : Value} (h : Led w g s sv) (ht : Touch Nothing w w') : LedPost w g sv s w' :=
  ⟨sv, h.touch ht (fun q => q) (fun _ _ q => q), ht.mono fun _ _ q => q.elim, fun k hk => .inl hk⟩

theorem LedPost.after {w w1 w' : World} {g : Nat} {sv : Value} {s : Lg} (ht : Touch Nothing w1 w') (h : LedPost w g sv s w1) : LedPost w g sv s w' := by
  obtain ⟨sv', h1, h2, h3⟩ := h
  exact ⟨sv', h1.touch ht (fun q => q) (fun _ _ q => q), h2.none ht, h3⟩

set_option maxHeartbeats 800000 in
theorem move_any {w : World} {g : Nat} {s : Lg} {sv : Value} (h : Led w g s sv) (t : Int) :
    Calls Try.prog 23 #[.pointer (some ⟨g, 0, none⟩), .int .i64 t] w fun e w' => e = .returned (.int .i64 (s.move t).1) ∧ LedPost w g sv (s.move t).2 w' := by
  have c3 : w.cell? ⟨g, 3, none⟩ = some (.int .i64 s.now) := (cell_blk h.blk 3).trans rfl
  have c4 : w.cell? ⟨g, 4, none⟩ = some sv := (cell_blk h.blk 4).trans rfl
  have f3 := frz_blk h.blk 3
  by_cases h1 : t < s.now
  · have e : s.move t = (140, s) := if_pos h1
    rw [e]
    replace h := Lib.hid h
    replace e := Lib.hid e
    go_enter Try.func23, Try.ntmps23
    go_wp2
    go_ret
    exact ⟨rfl, h.out.stay (Touch.refl _ _)⟩
  · by_cases h2 : 1099511627776 < t
    · have e : s.move t = (1, s) := by unfold Lg.move; rw [if_neg h1, if_pos h2]
      rw [e]
      replace h := Lib.hid h
      replace e := Lib.hid e
      go_enter Try.func23, Try.ntmps23
      go_wp2
      go_ret
      exact ⟨rfl, h.out.stay (Touch.refl _ _)⟩
    · obtain ⟨l, hl⟩ : ∃ l, l = s.l.filter fun x => !oldAt s.W s.D t x := ⟨_, rfl⟩
      have e : s.move t = (0, { s with now := t, l := l }) := by rw [hl]; unfold Lg.move; rw [if_neg h1, if_neg h2]
      have hok : (s.move t).2.Ok := Lg.move_ok h.ok t
      rw [e] at hok ⊢
      obtain ⟨s1, hs1⟩ : ∃ s1 : Lg, s1 = { s with now := t } := ⟨_, rfl⟩
      have hok1 : s1.Ok := by
        rw [hs1]
        exact ⟨h.ok.W, h.ok.D, h.ok.H, hok.now, h.ok.at_, h.ok.len⟩
      have hb1 : (w.setCell ⟨g, 3, none⟩ (.int .i64 t)).heap[g]? = some (ledC s1 sv) := by rw [hs1]; exact heap_setCell_same h.blk 3 _
      have ht1 : Touch (fun k => k = g) w (w.setCell ⟨g, 3, none⟩ (.int .i64 t)) := (Touch.refl (fun k => k = g) w).setCell (p := ⟨g, 3, none⟩) (fun _ => rfl) _
      have ho1 := ht1.owns h.own (fun k hk q => h.ne (by rw [← q]; exact hk))
      have hD := delete_any hb1 hok1 ho1 rfl h.ok.at_ h.ok.len h.ne
      have hl' : l = s.l.filter fun x => !oldAt s1.W s1.D s1.now x := by rw [hl, hs1]
      rw [← hl'] at hD
      have c4' : (w.setCell ⟨g, 3, none⟩ (.int .i64 t)).cell? ⟨g, 4, none⟩ = some sv := (cell_blk hb1 4).trans rfl
      obtain ⟨av, cv, rfl⟩ := owns_slice h.own
      replace hD := Lib.hid hD
      replace h := Lib.hid h
      replace e := Lib.hid e
      replace hl := Lib.hid hl
      replace hl' := Lib.hid hl'
      replace hs1 := Lib.hid hs1
      replace hok := Lib.hid hok
      replace hb1 := Lib.hid hb1
      generalize s.l.length = n0 at *
      go_enter Try.func23, Try.ntmps23
      go_wp2_with (go_at_call 33; refine hD.out.mono ?_; rintro e w2 ⟨ht2, v', rfl, ho2, hv2⟩; obtain ⟨av2, cv2, rfl⟩ := owns_slice ho2; have hb2 := ht2.heap hb1.out (fun q => h.out.ne q); have d4 := (cell_blk hb2 4).trans rfl; have f4 := frz_blk hb2 4)
      go_ret
      have hb3 := heap_setCell_same hb2 4 (.slice av2 l.length cv2)
      have hne2 : (Value.slice av2 l.length cv2).ownBlock ≠ some g := by rw [hv2]; exact h.out.ne
      have ht3 : Touch (fun k => k = g) w2 (w2.setCell ⟨g, 4, none⟩ (.slice av2 l.length cv2)) := (Touch.refl (fun k => k = g) w2).setCell (p := ⟨g, 4, none⟩) (fun _ => rfl) _
      refine ⟨rfl, .slice av2 l.length cv2, ⟨?_, ht3.owns ho2 (fun k hk q => hne2 (by rw [← q]; exact hk)), hne2, hok.out⟩, ?_, fun k hk => .inl (by rw [← hv2]; exact hk)⟩
      · rw [hs1.out] at hb3
        exact hb3
      · exact ((ht1.mono fun _ _ q => .inl q).trans ht2 fun k _ q => .inr q).trans ht3 fun k _ q => .inl q

end Go.Proofs.Ytikjcobdddjlbaa
