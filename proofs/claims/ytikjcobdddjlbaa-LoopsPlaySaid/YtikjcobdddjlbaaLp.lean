/-
  Layer 23: the small functions: within, old, late, open.
-/
import Derived.Test.YtikjcobdddjlbaaProg
import Derived.Test.YtikjcobdddjlbaaMem
import Derived.Test.YtikjcobdddjlbaaModel
import Derived.Outline
import Derived.Deep.QuietTactic
import Derived.BigQuiet
import Derived.IntWalk
import Derived.Deep.RegionWith
namespace Go.Proofs.Ytikjcobdddjlbaa
open Go.RowKit
set_option linter.unusedVariables false
set_option linter.unusedSimpArgs false

/-- A loop as a value, and its cells. -/
def lpC (x : Lp) : List Value := [.string x.id, .int .i64 x.at_, .bool x.came]
def lpV (x : Lp) : Value := .agg #[.string x.id, .int .i64 x.at_, .bool x.came]

/-- The ledger's block. -/
def ledC (s : Lg) (sv : Value) : Obj := .cells #[.int .i64 s.W, .int .i64 s.D, .int .i64 s.H, .int .i64 s.now, sv] 56

theorem within_any (w : World) (n a b : Int) : Calls Try.prog 22 #[.int .i64 n, .int .i64 a, .int .i64 b] w fun e w' => e = .returned (.bool (decide (a ≤ n) && decide (n ≤ b))) ∧ w' = w := by
  by_cases h1 : a ≤ n
  · by_cases h2 : n ≤ b
    · go_enter Try.func22, Try.ntmps22
      go_wp2
      go_ret
      simp [h1, h2]
    · go_enter Try.func22, Try.ntmps22
      go_wp2
      go_ret
      simp [h1, h2]
  · go_enter Try.func22, Try.ntmps22
    go_wp2
    go_ret
    simp [h1]
    omega

theorem open_any (w : World) (g : Nat) (x : Lp) : Calls Try.prog 26 #[.pointer (some ⟨g, 0, none⟩), lpV x] w fun e w' => e = .returned (.bool (openAt x)) ∧ Touch Nothing w w' := by
  obtain ⟨id, at_, came⟩ := x
  unfold lpV openAt
  go_enter Try.func26, Try.ntmps26
  go_wp2
  go_ret
  exact ⟨rfl, (Touch.refl _ _).alloc _⟩

theorem old_any (w : World) (g : Nat) (s : Lg) (sv : Value) (hb : w.heap[g]? = some (ledC s sv)) (hs : s.Ok) (x : Lp) (hx : 0 ≤ x.at_ ∧ x.at_ ≤ 1099511627776) :
    Calls Try.prog 32 #[.pointer (some ⟨g, 0, none⟩), lpV x] w fun e w' => e = .returned (.bool (oldAt s.W s.D s.now x)) ∧ Touch Nothing w w' := by
  have c0 : ∀ o, (w.alloc o).cell? ⟨g, 0, none⟩ = some (.int .i64 s.W) := fun o => Lib.cell?_alloc_some _ ((cell_blk hb 0).trans rfl)
  have c1 : ∀ o, (w.alloc o).cell? ⟨g, 1, none⟩ = some (.int .i64 s.D) := fun o => Lib.cell?_alloc_some _ ((cell_blk hb 1).trans rfl)
  have c3 : ∀ o, (w.alloc o).cell? ⟨g, 3, none⟩ = some (.int .i64 s.now) := fun o => Lib.cell?_alloc_some _ ((cell_blk hb 3).trans rfl)
  have hg : g ≠ w.heap.size := by have := lt_of_heap hb; omega
  obtain ⟨id, at_, came⟩ := x
  obtain ⟨W, D, H, now, l⟩ := s
  have hW := hs.W
  have hD := hs.D
  have hn := hs.now
  unfold lpV oldAt
  simp only [] at *
  replace c0 := c0 (.cells #[.string id, .int .i64 at_, .bool came] 61)
  replace c1 := c1 (.cells #[.string id, .int .i64 at_, .bool came] 61)
  replace c3 := c3 (.cells #[.string id, .int .i64 at_, .bool came] 61)
  have e1 : IntKind.i64.wrap (now - W) = now - W := IntWalk.i64_in _ (by omega)
  have e2 : IntKind.i64.wrap (now - W - D) = now - W - D := IntWalk.i64_in _ (by omega)
  clear hb hs
  go_enter Try.func32, Try.ntmps32
  go_wp2
  go_quiet (fail)
  go_wp2
  go_ret
  exact ⟨rfl, ((Touch.refl _ _).alloc _).drewN _⟩

theorem late_any (w : World) (g : Nat) (s : Lg) (sv : Value) (hb : w.heap[g]? = some (ledC s sv)) (hs : s.Ok) (x : Lp) :
    Calls Try.prog 27 #[.pointer (some ⟨g, 0, none⟩), lpV x] w fun e w' => e = .returned (.bool (lateAt s.D s.now x)) ∧ Touch Nothing w w' := by
  have c1 : ∀ o, (w.alloc o).cell? ⟨g, 1, none⟩ = some (.int .i64 s.D) := fun o => Lib.cell?_alloc_some _ ((cell_blk hb 1).trans rfl)
  have c3 : ∀ o, (w.alloc o).cell? ⟨g, 3, none⟩ = some (.int .i64 s.now) := fun o => Lib.cell?_alloc_some _ ((cell_blk hb 3).trans rfl)
  have hg : g ≠ w.heap.size := by have := lt_of_heap hb; omega
  obtain ⟨id, at_, came⟩ := x
  obtain ⟨W, D, H, now, l⟩ := s
  have hD := hs.D
  have hn := hs.now
  unfold lpV lateAt
  simp only [] at *
  have e1 : IntKind.i64.wrap (now - D) = now - D := IntWalk.i64_in _ (by omega)
  clear hb hs
  cases came
  all_goals
    first
      | replace c1 := c1 (.cells #[.string id, .int .i64 at_, .bool false] 61)
        replace c3 := c3 (.cells #[.string id, .int .i64 at_, .bool false] 61)
        go_enter Try.func27, Try.ntmps27
        go_wp2
        go_quiet (fail)
        go_wp2
        go_ret
        exact ⟨by simp, ((Touch.refl _ _).alloc _).drewN _⟩
      | go_enter Try.func27, Try.ntmps27
        go_wp2
        go_quiet (fail)
        go_wp2
        go_ret
        exact ⟨by simp, ((Touch.refl _ _).alloc _).drewN _⟩

def newLg (W D H : Int) : Lg := ⟨W, D, H, 0, []⟩
def mayBe (W D H : Int) : Prop := (1 ≤ W ∧ W ≤ 1048576) ∧ (1 ≤ D ∧ D ≤ 1048576) ∧ 0 ≤ H ∧ H ≤ 4096

theorem new_yes (w : World) (W D H : Int) (h : mayBe W D H) : Calls Try.prog 9 #[.int .i64 W, .int .i64 D, .int .i64 H] w fun e w' =>
    e = .returned (.tuple #[.pointer (some ⟨w.heap.size, 0, none⟩), .int .i64 0]) ∧ w' = w.alloc (ledC (newLg W D H) (.slice none 0 0)) := by
  obtain ⟨⟨h1, h2⟩, ⟨h3, h4⟩, h5, h6⟩ := h
  have q1 := within_any w W 1 1048576
  have q2 := within_any w D 1 1048576
  have q3 := within_any w H 0 4096
  rw [decide_eq_true h1, decide_eq_true h2] at q1
  rw [decide_eq_true h3, decide_eq_true h4] at q2
  rw [decide_eq_true h5, decide_eq_true h6] at q3
  replace q1 := Lib.hid q1
  replace q2 := Lib.hid q2
  replace q3 := Lib.hid q3
  clear h1 h2 h3 h4 h5 h6
  go_enter Try.func9, Try.ntmps9
  go_wp2_with (first
    | (go_at_call_of 22 (Value.int IntKind.i64 W); refine q1.out.mono ?_; rintro e w1 ⟨rfl, rfl⟩)
    | (go_at_call_of 22 (Value.int IntKind.i64 D); refine q2.out.mono ?_; rintro e w1 ⟨rfl, rfl⟩)
    | (go_at_call_of 22 (Value.int IntKind.i64 H); refine q3.out.mono ?_; rintro e w1 ⟨rfl, rfl⟩))
  go_ret2
  exact ⟨rfl, rfl⟩

theorem new_no (w : World) (W D H : Int) (h : ¬ mayBe W D H) : Calls Try.prog 9 #[.int .i64 W, .int .i64 D, .int .i64 H] w fun e w' =>
    e = .returned (.tuple #[.pointer none, .int .i64 1]) ∧ w' = w := by
  have q1 := within_any w W 1 1048576
  have q2 := within_any w D 1 1048576
  have q3 := within_any w H 0 4096
  obtain ⟨b1, e1⟩ : ∃ b1, b1 = (decide (1 ≤ W) && decide (W ≤ 1048576)) := ⟨_, rfl⟩
  obtain ⟨b2, e2⟩ : ∃ b2, b2 = (decide (1 ≤ D) && decide (D ≤ 1048576)) := ⟨_, rfl⟩
  obtain ⟨b3, e3⟩ : ∃ b3, b3 = (decide (0 ≤ H) && decide (H ≤ 4096)) := ⟨_, rfl⟩
  rw [← e1] at q1
  rw [← e2] at q2
  rw [← e3] at q3
  have hb : ¬ (b1 = true ∧ b2 = true ∧ b3 = true) := by
    rintro ⟨rfl, rfl, rfl⟩
    simp at e1 e2 e3
    exact h ⟨e1, e2, e3⟩
  clear e1 e2 e3 h
  replace q1 := Lib.hid q1
  replace q2 := Lib.hid q2
  replace q3 := Lib.hid q3
  replace hb := Lib.hid hb
  cases b1
  · go_enter Try.func9, Try.ntmps9
    go_wp2_with (go_at_call_of 22 (Value.int IntKind.i64 W); refine q1.out.mono ?_; rintro e w1 ⟨rfl, rfl⟩)
    go_ret2
    exact ⟨rfl, rfl⟩
  · cases b2
    · go_enter Try.func9, Try.ntmps9
      go_wp2_with (first
        | (go_at_call_of 22 (Value.int IntKind.i64 D); refine q2.out.mono ?_; rintro e w1 ⟨rfl, rfl⟩)
        | (go_at_call_of 22 (Value.int IntKind.i64 W); refine q1.out.mono ?_; rintro e w1 ⟨rfl, rfl⟩))
      go_ret2
      exact ⟨rfl, rfl⟩
    · cases b3
      · go_enter Try.func9, Try.ntmps9
        go_wp2_with (first
          | (go_at_call_of 22 (Value.int IntKind.i64 W); refine q1.out.mono ?_; rintro e w1 ⟨rfl, rfl⟩)
          | (go_at_call_of 22 (Value.int IntKind.i64 D); refine q2.out.mono ?_; rintro e w1 ⟨rfl, rfl⟩)
          | (go_at_call_of 22 (Value.int IntKind.i64 H); refine q3.out.mono ?_; rintro e w1 ⟨rfl, rfl⟩))
        go_ret2
        exact ⟨rfl, rfl⟩
      · exact absurd ⟨rfl, rfl, rfl⟩ hb.out

end Go.Proofs.Ytikjcobdddjlbaa
