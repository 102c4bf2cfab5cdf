/-
  Layer 23: the call's own ledger beside two rows of ints that the call owns (when each loop is sent, when it comes back); the loops that came in.
-/
import Derived.Test.YtikjcobdddjlbaaSim
import Derived.Test.YtikjcobdddjlbaaForget
namespace Go.Proofs.Ytikjcobdddjlbaa
open Go.RowKit
set_option linter.unusedVariables false
set_option linter.unusedSimpArgs false

def row (S : Nat → Int) (n : Nat) : List Value := (List.range n).map fun j => .int .i64 (S j)

theorem row_succ (S : Nat → Int) (n : Nat) : row S n ++ [.int .i64 (S n)] = row S (n + 1) := by
  simp [row, List.range_succ]

theorem row_len (S : Nat → Int) (n : Nat) : (row S n).length = n := by simp [row]

theorem row_cell {w : World} {v : Value} {n : Nat} {S : Nat → Int} (h : w.ownsRow 0 3 1 v n (row S n)) {i : Nat} (hi : i < n) :
    ∃ gb cap, v = .slice (some ⟨gb, 0, none⟩) n cap ∧ w.cell? ⟨gb, i, none⟩ = some (.int .i64 (S i)) := by
  rcases h.2 with ⟨hv, h0⟩ | ⟨g, cap, cur, hv, _, hg, hnc, _, hcs, ht⟩
  · omega
  · refine ⟨g, cap, hv, ?_⟩
    have := h.cells (g := g) (by rw [hv]; rfl) i (.int .i64 (S i)) (by simp [row, hi])
    rw [Addr.add_lit] at this
    simpa using this

theorem one_int (z : Int) : ∀ u ∈ [Value.int .i64 z], u.oneCell' = true := by simp [Value.oneCell']

theorem intsE : Elt Try.prog 31 3 1 8 := Elt.mk' (z := .int .i64 0) Try.underlying31 (by kernel_rfl) rfl (by decide)

/-- A ledger of the call's own in block g, and two rows beside it. -/
structure Duo (B g : Nat) (s : Lg) (v1 v2 : Value) (n1 n2 : Nat) (S K : Nat → Int) (w0 w : World) : Prop where
  rd : ∃ sv, Led w g s sv ∧ ∀ k, sv.ownBlock = some k → B ≤ k ∧ v1.ownBlock ≠ some k ∧ v2.ownBlock ≠ some k
  hb : Below B w0 w
  hg : B ≤ g ∧ v1.ownBlock ≠ some g ∧ v2.ownBlock ≠ some g
  hB : B ≤ w.heap.size
  o1 : w.ownsRow 0 3 1 v1 n1 (row S n1)
  o2 : w.ownsRow 0 3 1 v2 n2 (row K n2)
  b1 : ∀ k, v1.ownBlock = some k → B ≤ k ∧ v2.ownBlock ≠ some k
  b2 : ∀ k, v2.ownBlock = some k → B ≤ k

theorem Own.duo {B g : Nat} {s : Lg} {w0 w : World} (h : Own B g s w0 w) (S K : Nat → Int) : Duo B g s (.slice none 0 0) (.slice none 0 0) 0 0 S K w0 w := by
  obtain ⟨sv, q1, q2⟩ := h.rd
  exact ⟨⟨sv, q1, fun k hk => ⟨q2 k hk, by simp [Value.ownBlock], by simp [Value.ownBlock]⟩⟩, h.hb, ⟨h.hg, by simp [Value.ownBlock], by simp [Value.ownBlock]⟩, h.hB,
    World.ownsRow_nil _ _ _ _, World.ownsRow_nil _ _ _ _, fun k hk => by simp [Value.ownBlock] at hk, fun k hk => by simp [Value.ownBlock] at hk⟩

theorem Duo.step {B g : Nat} {s s' : Lg} {v1 v2 : Value} {n1 n2 : Nat} {S K : Nat → Int} {w0 w w' : World} {sv : Value} (h : Duo B g s v1 v2 n1 n2 S K w0 w) (hs : ∀ k, sv.ownBlock = some k → B ≤ k ∧ v1.ownBlock ≠ some k ∧ v2.ownBlock ≠ some k) (hp : LedPost w g sv s' w') : Duo B g s' v1 v2 n1 n2 S K w0 w' := by
  obtain ⟨sv', q1, q2, q3⟩ := hp
  have hB := h.hB
  have hg := h.hg
  have l1 := fun k hk => (h.o1.lt k hk).2
  have l2 := fun k hk => (h.o2.lt k hk).2
  refine ⟨⟨sv', q1, fun k hk => (q3 k hk).elim (hs k) fun q => ⟨by omega, fun e => ?_, fun e => ?_⟩⟩, h.hb.trans (q2.below h.hB fun k hk q => ?_), hg, Nat.le_trans h.hB q2.size,
    q2.owns h.o1 fun k hk q => ?_, q2.owns h.o2 fun k hk q => ?_, h.b1, h.b2⟩
  · have := l1 k e; omega
  · have := l2 k e; omega
  · rcases q with q | q
    · have := h.hg; omega
    · have := (hs k q).1; omega
  · rcases q with q | q
    · subst q; exact hg.2.1 hk
    · exact (hs k q).2.1 hk
  · rcases q with q | q
    · subst q; exact hg.2.2 hk
    · exact (hs k q).2.2 hk

theorem Duo.keep {B g : Nat} {s : Lg} {v1 v2 : Value} {n1 n2 : Nat} {S K : Nat → Int} {w0 w w' : World} (h : Duo B g s v1 v2 n1 n2 S K w0 w) (ht : Touch Nothing w w') : Duo B g s v1 v2 n1 n2 S K w0 w' := by
  obtain ⟨sv, q1, q2⟩ := h.rd
  exact ⟨⟨sv, q1.touch ht (fun q => q) (fun _ _ q => q), q2⟩, h.hb.trans (ht.below h.hB fun _ _ q => q), h.hg, Nat.le_trans h.hB ht.size, ht.owns h.o1 fun _ _ q => q, ht.owns h.o2 fun _ _ q => q, h.b1, h.b2⟩

/-- The first row grown by one. -/
theorem Duo.app1 {B g : Nat} {s : Lg} {v1 v2 v4 : Value} {n1 n2 : Nat} {S K : Nat → Int} {w0 w w4 : World} {o : Obj} (h : Duo B g s v1 v2 n1 n2 S K w0 w)
    (ho : w4.ownsRow 0 3 1 v4 (n1 + 1) (row S (n1 + 1))) (hg : (w.alloc o).grownBy w4 v1.ownBlock) (hv : v4.ownBlock = v1.ownBlock ∨ v4.ownBlock = some (w.alloc o).heap.size) : Duo B g s v4 v2 (n1 + 1) n2 S K w0 w4 := by
  obtain ⟨sv, q1, q2⟩ := h.rd
  have hB := h.hB
  have hgg := h.hg
  have ht : Touch (fun k => v1.ownBlock = some k) w w4 := ((Touch.refl _ w).alloc o).grown hg (fun k _ q => q)
  have hlt := lt_of_heap q1.blk
  have ls := fun k hk => (q1.own.lt k hk).2
  have l2 := fun k hk => (h.o2.lt k hk).2
  have hsz : (w.alloc o).heap.size = w.heap.size + 1 := by simp
  have hnew : ∀ k, v4.ownBlock = some k → v1.ownBlock = some k ∨ w.heap.size < k := by
    intro k hk
    rcases hv with q | q
    · exact .inl (by rw [← q]; exact hk)
    · rw [hk] at q; have := Option.some.inj q; exact .inr (by omega)
  refine ⟨⟨sv, q1.touch ht (fun q => hgg.2.1 q) (fun k hk q => (q2 k hk).2.1 q), fun k hk => ⟨(q2 k hk).1, fun e => ?_, (q2 k hk).2.2⟩⟩, h.hb.trans (ht.below h.hB fun k hk q => by have := (h.b1 k q).1; omega), ⟨hgg.1, fun e => ?_, hgg.2.2⟩, Nat.le_trans h.hB ht.size,
    ho, ht.owns h.o2 fun k hk q => (h.b1 k q).2 hk, fun k hk => ?_, h.b2⟩
  · rcases hnew k e with q | q
    · exact (q2 k hk).2.1 q
    · have := ls k hk; omega
  · rcases hnew g e with q | q
    · exact hgg.2.1 q
    · omega
  · rcases hnew k hk with q | q
    · exact h.b1 k q
    · exact ⟨by omega, fun e => by have := l2 k e; omega⟩

/-- The second row grown by one. -/
theorem Duo.app2 {B g : Nat} {s : Lg} {v1 v2 v4 : Value} {n1 n2 : Nat} {S K : Nat → Int} {w0 w w4 : World} {o : Obj} (h : Duo B g s v1 v2 n1 n2 S K w0 w)
    (ho : w4.ownsRow 0 3 1 v4 (n2 + 1) (row K (n2 + 1))) (hg : (w.alloc o).grownBy w4 v2.ownBlock) (hv : v4.ownBlock = v2.ownBlock ∨ v4.ownBlock = some (w.alloc o).heap.size) : Duo B g s v1 v4 n1 (n2 + 1) S K w0 w4 := by
  obtain ⟨sv, q1, q2⟩ := h.rd
  have hB := h.hB
  have hgg := h.hg
  have ht : Touch (fun k => v2.ownBlock = some k) w w4 := ((Touch.refl _ w).alloc o).grown hg (fun k _ q => q)
  have hlt := lt_of_heap q1.blk
  have ls := fun k hk => (q1.own.lt k hk).2
  have l1 := fun k hk => (h.o1.lt k hk).2
  have hsz : (w.alloc o).heap.size = w.heap.size + 1 := by simp
  have hnew : ∀ k, v4.ownBlock = some k → v2.ownBlock = some k ∨ w.heap.size < k := by
    intro k hk
    rcases hv with q | q
    · exact .inl (by rw [← q]; exact hk)
    · rw [hk] at q; have := Option.some.inj q; exact .inr (by omega)
  refine ⟨⟨sv, q1.touch ht (fun q => hgg.2.2 q) (fun k hk q => (q2 k hk).2.2 q), fun k hk => ⟨(q2 k hk).1, (q2 k hk).2.1, fun e => ?_⟩⟩, h.hb.trans (ht.below h.hB fun k hk q => by have := h.b2 k q; omega), ⟨hgg.1, hgg.2.1, fun e => ?_⟩, Nat.le_trans h.hB ht.size,
    ht.owns h.o1 fun k hk q => (h.b1 k hk).2 q, ho, fun k hk => ⟨(h.b1 k hk).1, fun e => ?_⟩, fun k hk => ?_⟩
  · rcases hnew k e with q | q
    · exact (q2 k hk).2.2 q
    · have := ls k hk; omega
  · rcases hnew g e with q | q
    · exact hgg.2.2 q
    · omega
  · rcases hnew k e with q | q
    · exact (h.b1 k hk).2 q
    · have := l1 k hk; omega
  · rcases hnew k hk with q | q
    · exact h.b2 k q
    · omega

section
variable {B g : Nat} {s s' : Lg} {v1 v2 : Value} {n1 n2 : Nat} {S K : Nat → Int} {w0 w : World} {t e0 : Int} {id : ByteArray}

theorem Duo.sent (h : Duo B g s v1 v2 n1 n2 S K w0 w) (hz : id.size ≤ 9223372036854775807) (hl : s.sent t id = (e0, s')) :
    Calls Try.prog 10 #[.pointer (some ⟨g, 0, none⟩), .int .i64 t, .string id] w fun e w' => e = .returned (.int .i64 e0) ∧ Duo B g s' v1 v2 n1 n2 S K w0 w' := by
  obtain ⟨sv, q1, q2⟩ := h.rd
  refine (Sent_any q1 t id hz).mono fun e w' hp => ?_
  rw [hl] at hp
  exact ⟨hp.1, h.step q2 hp.2⟩

theorem Duo.back (h : Duo B g s v1 v2 n1 n2 S K w0 w) (hl : s.back t id = (e0, s')) :
    Calls Try.prog 12 #[.pointer (some ⟨g, 0, none⟩), .int .i64 t, .string id] w fun e w' => e = .returned (.int .i64 e0) ∧ Duo B g s' v1 v2 n1 n2 S K w0 w' := by
  obtain ⟨sv, q1, q2⟩ := h.rd
  refine (Back_any q1 t id).mono fun e w' hp => ?_
  rw [hl] at hp
  exact ⟨hp.1, h.step q2 hp.2⟩

theorem Duo.alarm {n : Int} (h : Duo B g s v1 v2 n1 n2 S K w0 w) (hl : s.late t = ((n, 0), s')) :
    Calls Try.prog 13 #[.pointer (some ⟨g, 0, none⟩), .int .i64 t] w fun e w' => e = .returned (.tuple #[.bool (decide (s.H < n)), .int .i64 0]) ∧ Duo B g s' v1 v2 n1 n2 S K w0 w' := by
  obtain ⟨sv, q1, q2⟩ := h.rd
  refine (Alarm_any q1 t).mono fun e w' hp => ?_
  rw [hl] at hp
  exact ⟨hp.1, h.step q2 hp.2⟩

theorem Duo.late {n : Int} (h : Duo B g s v1 v2 n1 n2 S K w0 w) (hl : s.late t = ((n, 0), s')) :
    Calls Try.prog 15 #[.pointer (some ⟨g, 0, none⟩), .int .i64 t] w fun e w' => e = .returned (.tuple #[.int .i64 n, .int .i64 0]) ∧ Duo B g s' v1 v2 n1 n2 S K w0 w' := by
  obtain ⟨sv, q1, q2⟩ := h.rd
  refine (Late_any q1 t).mono fun e w' hp => ?_
  rw [hl] at hp
  exact ⟨hp.1, h.step q2 hp.2⟩

theorem Duo.open {k : Nat} (h : Duo B g s v1 v2 n1 n2 S K w0 w) (hl : s.l.countP openAt = k) :
    Calls Try.prog 14 #[.pointer (some ⟨g, 0, none⟩)] w fun e w' => e = .returned (.int .i64 (k : Int)) ∧ Duo B g s v1 v2 n1 n2 S K w0 w' := by
  obtain ⟨sv, q1, q2⟩ := h.rd
  refine (Open_any q1).mono fun e w' hp => ?_
  rw [hl] at hp
  exact ⟨hp.1, h.keep hp.2⟩

theorem Duo.idc {i : Nat} (h : Duo B g s v1 v2 n1 n2 S K w0 w) (hi : i ≤ 1048576) :
    Calls Try.prog 11 #[.int .i64 (i : Int)] w fun e w' => e = .returned (.string (idS i)) ∧ Duo B g s v1 v2 n1 n2 S K w0 w' :=
  (id_any w i hi).mono fun e w' hp => ⟨hp.1, h.keep hp.2⟩
end

/-- Loops that came in: two ints each. -/
def LoopA (w : World) (a : Option Addr) (ls : List (Int × Int)) : Prop :=
  ∀ i (h : i < ls.length), ∃ g o, a = some ⟨g, o, none⟩ ∧ g < w.heap.size ∧ w.cell? ⟨g, o + i * 2, none⟩ = some (.int .i64 ls[i].1) ∧ w.cell? ⟨g, o + i * 2 + 1, none⟩ = some (.int .i64 ls[i].2)

/-- The sum of the gaps. -/
def acc (g : Nat → Int) : Nat → Int
  | 0 => 0
  | k + 1 => acc g k + g k

theorem acc_mono {g : Nat → Int} (h : ∀ k, 0 ≤ g k) {i j : Nat} (hij : i ≤ j) : acc g i ≤ acc g j := by
  induction j with
  | zero => have : i = 0 := by omega
            subst this; exact Int.le_refl _
  | succ j ih =>
    by_cases e : i = j + 1
    · subst e; exact Int.le_refl _
    · have := ih (by omega)
      have := h j
      simp only [acc]; omega

theorem acc_le {g : Nat → Int} {c : Int} (h : ∀ k, g k ≤ c) (i : Nat) : acc g i ≤ c * i := by
  induction i with
  | zero => simp [acc]
  | succ j ih =>
    have := h j
    simp only [acc]
    rw [Int.natCast_add, Int.mul_add]
    omega

def gapOf (ls : List (Int × Int)) (c : Int) (j : Nat) : Int := (ls.getD j (0, 0)).1 % c
def backOf (ls : List (Int × Int)) (c : Int) (j : Nat) : Int := (ls.getD j (0, 0)).2 % c

theorem plan_of {W D : Int} {n : Nat} {g B : Nat → Int} (hW : 1 ≤ W ∧ W ≤ 1000) (hD : 1 ≤ D ∧ D ≤ 1000) (hn : n ≤ 60) (hg : ∀ k, 0 ≤ g k ∧ g k ≤ 10)
    (hB : ∀ j, j < n → B j = -1 ∨ (acc g (j + 1) < B j ∧ B j < acc g (j + 1) + W + D)) : Plan W D n (fun j => acc g (j + 1)) B :=
  ⟨hW, hD, hn, fun i j hij hj => acc_mono (fun k => (hg k).1) (by omega), fun j hj => ⟨acc_mono (fun k => (hg k).1) (i := 0) (by omega), by
    have := acc_le (fun k => (hg k).2) (j + 1); simp at this ⊢; omega⟩, hB⟩

end Go.Proofs.Ytikjcobdddjlbaa
