/-
  Layer 23: the call's own two ledgers, the program's and the document's, and a block beside them that nobody turns.
-/
import Derived.Test.YtikjcobdddjlbaaRlt
import Derived.Test.YtikjcobdddjlbaaForget
namespace Go.Proofs.Ytikjcobdddjlbaa
open Go.RowKit
set_option linter.unusedVariables false
set_option linter.unusedSimpArgs false

/-- The two ledgers in blocks g and r; block X holds o. -/
structure Two (B g r X : Nat) (o : Obj) (s q : Lg) (w0 w : World) : Prop where
  ls : ∃ sv rv, Led w g s sv ∧ RLed w r q rv ∧ (∀ k, sv.ownBlock = some k → B ≤ k ∧ k ≠ r ∧ k ≠ X ∧ rv.ownBlock ≠ some k) ∧ (∀ k, rv.ownBlock = some k → B ≤ k ∧ k ≠ g ∧ k ≠ X)
  hb : Below B w0 w
  hg : B ≤ g ∧ B ≤ r ∧ g ≠ r ∧ X ≠ g ∧ X ≠ r
  hB : B ≤ w.heap.size ∧ X < w.heap.size
  hx : w.heap[X]? = some o

section
variable {B g r X : Nat} {o : Obj} {s s' q q' : Lg} {w0 w w' : World}

theorem Two.keep (h : Two B g r X o s q w0 w) (ht : Touch Nothing w w') : Two B g r X o s q w0 w' := by
  obtain ⟨sv, rv, h1, h2, h3, h4⟩ := h.ls
  have hB := h.hB
  have hsz := ht.size
  exact ⟨⟨sv, rv, h1.touch ht (fun q => q) (fun _ _ q => q), h2.nothing ht, h3, h4⟩, h.hb.trans (ht.below h.hB.1 fun _ _ q => q), h.hg, by omega, ht.heap h.hx (fun q => q)⟩

theorem Two.drew (h : Two B g r X o s q w0 w) : Two B g r X o s q w0 w.drew := h.keep (Touch.refl _ _).drew

theorem Two.impl (h : Two B g r X o s q w0 w) {f : FuncId} {args : Array Value} {R : Ending → Prop}
    (hc : ∀ sv, Led w g s sv → Calls Try.prog f args w fun e w' => R e ∧ LedPost w g sv s' w') : Calls Try.prog f args w fun e w' => R e ∧ Two B g r X o s' q w0 w' := by
  obtain ⟨sv, rv, h1, h2, h3, h4⟩ := h.ls
  refine (hc sv h1).mono fun e w' hp => ⟨hp.1, ?_⟩
  obtain ⟨sv', q1, q2, q3⟩ := hp.2
  have hB := h.hB
  have hg := h.hg
  have hsz := q2.size
  have hlr := fun k hk => (h2.own.lt k hk).2
  have hrb := lt_of_heap h2.blk
  refine ⟨⟨sv', rv, q1, h2.touch q2 (fun e => ?_) (fun k hk e => ?_), fun k hk => (q3 k hk).elim (h3 k) fun e => ⟨by omega, by omega, by omega, fun e2 => ?_⟩, h4⟩, h.hb.trans (q2.below h.hB.1 fun k hk e => ?_), hg, by omega, q2.heap h.hx fun e => ?_⟩
  · rcases e with e | e
    · exact hg.2.2.1 e.symm
    · exact (h3 _ e).2.1 rfl
  · rcases e with e | e
    · exact (h4 k hk).2.1 e
    · exact (h3 k e).2.2.2 hk
  · have := hlr k e2; omega
  · rcases e with e | e
    · omega
    · have := (h3 k e).1; omega
  · rcases e with e | e
    · exact hg.2.2.2.1 e
    · exact (h3 _ e).2.2.1 rfl

theorem Two.ref (h : Two B g r X o s q w0 w) {f : FuncId} {args : Array Value} {R : Ending → Prop}
    (hc : ∀ rv, RLed w r q rv → Calls Try.prog f args w fun e w' => R e ∧ RPost w r rv q' w') : Calls Try.prog f args w fun e w' => R e ∧ Two B g r X o s q' w0 w' := by
  obtain ⟨sv, rv, h1, h2, h3, h4⟩ := h.ls
  refine (hc rv h2).mono fun e w' hp => ⟨hp.1, ?_⟩
  obtain ⟨rv', q1, q2, q3⟩ := hp.2
  have hB := h.hB
  have hg := h.hg
  have hsz := q2.size
  have hls := fun k hk => (h1.own.lt k hk).2
  have hgb := lt_of_heap h1.blk
  refine ⟨⟨sv, rv', h1.touch q2 (fun e => ?_) (fun k hk e => ?_), q1, fun k hk => ⟨(h3 k hk).1, (h3 k hk).2.1, (h3 k hk).2.2.1, fun e2 => ?_⟩, fun k hk => (q3 k hk).elim (h4 k) fun e => ⟨by omega, by omega, by omega⟩⟩, h.hb.trans (q2.below h.hB.1 fun k hk e => ?_), hg, by omega, q2.heap h.hx fun e => ?_⟩
  · rcases e with e | e
    · exact hg.2.2.1 e
    · exact (h4 _ e).2.1 rfl
  · rcases e with e | e
    · exact (h3 k hk).2.1 e
    · exact (h3 k hk).2.2.2 e
  · rcases q3 k e2 with e3 | e3
    · exact (h3 k hk).2.2.2 e3
    · have := hls k hk; omega
  · rcases e with e | e
    · omega
    · have := (h4 k e).1; omega
  · rcases e with e | e
    · exact hg.2.2.2.2 e
    · exact (h4 _ e).2.2 rfl

theorem Two.sent (h : Two B g r X o s q w0 w) (t : Int) (id : ByteArray) (hid : id.size ≤ 9223372036854775807) :
    Calls Try.prog 10 #[.pointer (some ⟨g, 0, none⟩), .int .i64 t, .string id] w fun e w' => e = .returned (.int .i64 (s.sent t id).1) ∧ Two B g r X o (s.sent t id).2 q w0 w' :=
  h.impl fun sv hl => Sent_any hl t id hid

theorem Two.back (h : Two B g r X o s q w0 w) (t : Int) (id : ByteArray) :
    Calls Try.prog 12 #[.pointer (some ⟨g, 0, none⟩), .int .i64 t, .string id] w fun e w' => e = .returned (.int .i64 (s.back t id).1) ∧ Two B g r X o (s.back t id).2 q w0 w' :=
  h.impl fun sv hl => Back_any hl t id

theorem Two.late (h : Two B g r X o s q w0 w) (t : Int) :
    Calls Try.prog 15 #[.pointer (some ⟨g, 0, none⟩), .int .i64 t] w fun e w' => e = .returned (.tuple #[.int .i64 (s.late t).1.1, .int .i64 (s.late t).1.2]) ∧ Two B g r X o (s.late t).2 q w0 w' :=
  h.impl fun sv hl => Late_any hl t

theorem Two.alarm (h : Two B g r X o s q w0 w) (t : Int) :
    Calls Try.prog 13 #[.pointer (some ⟨g, 0, none⟩), .int .i64 t] w fun e w' => e = .returned (.tuple #[.bool (decide (s.H < (s.late t).1.1)), .int .i64 (s.late t).1.2]) ∧ Two B g r X o (s.late t).2 q w0 w' :=
  h.impl fun sv hl => Alarm_any hl t

theorem Two.now (h : Two B g r X o s q w0 w) :
    Calls Try.prog 20 #[.pointer (some ⟨g, 0, none⟩)] w fun e w' => e = .returned (.int .i64 s.now) ∧ w' = w := by
  obtain ⟨sv, rv, h1, _⟩ := h.ls
  exact Now_any h1

theorem Two.open (h : Two B g r X o s q w0 w) :
    Calls Try.prog 14 #[.pointer (some ⟨g, 0, none⟩)] w fun e w' => e = .returned (.int .i64 ((s.l.countP openAt : Nat) : Int)) ∧ Two B g r X o s q w0 w' := by
  obtain ⟨sv, rv, h1, _⟩ := h.ls
  exact (Open_any h1).mono fun e w' hp => ⟨hp.1, h.keep hp.2⟩

theorem Two.rsent (h : Two B g r X o s q w0 w) (hl : q.l.length < 4096) (t : Int) (id : ByteArray) (hid : id.size ≤ 9223372036854775807) :
    Calls Try.prog 17 #[.pointer (some ⟨r, 0, none⟩), .int .i64 t, .string id] w fun e w' => e = .returned (.int .i64 (q.rsent t id).1) ∧ Two B g r X o s (q.rsent t id).2 w0 w' :=
  h.ref fun rv hr => rsent_any hr hl t id hid

theorem Two.rback (h : Two B g r X o s q w0 w) (t : Int) (id : ByteArray) :
    Calls Try.prog 18 #[.pointer (some ⟨r, 0, none⟩), .int .i64 t, .string id] w fun e w' => e = .returned (.int .i64 (q.rback t id).1) ∧ Two B g r X o s (q.rback t id).2 w0 w' :=
  h.ref fun rv hr => rback_any hr t id

theorem Two.rlate (h : Two B g r X o s q w0 w) (t : Int) :
    Calls Try.prog 19 #[.pointer (some ⟨r, 0, none⟩), .int .i64 t] w fun e w' => e = .returned (.tuple #[.int .i64 (q.rlate t).1.1, .int .i64 (q.rlate t).1.2]) ∧ Two B g r X o s (q.rlate t).2 w0 w' :=
  h.ref fun rv hr => rlate_any hr t

theorem Two.ropen (h : Two B g r X o s q w0 w) :
    Calls Try.prog 21 #[.pointer (some ⟨r, 0, none⟩)] w fun e w' => e = .returned (.int .i64 ((q.l.countP (ropenP q) : Nat) : Int)) ∧ Two B g r X o s q w0 w' := by
  obtain ⟨sv, rv, _, h2, _⟩ := h.ls
  exact (ropen_any h2).mono fun e w' hp => ⟨hp.1, h.keep hp.2⟩

theorem Two.cells (h : Two B g r X o s q w0 w) : w.cell? ⟨r, 2, none⟩ = some (.int .i64 q.H) ∧ w.cell? ⟨r, 3, none⟩ = some (.int .i64 q.now) := by
  obtain ⟨sv, rv, _, h2, _⟩ := h.ls
  exact ⟨(cell_blk h2.blk 2).trans rfl, (cell_blk h2.blk 3).trans rfl⟩

theorem Two.ok (h : Two B g r X o s q w0 w) : q.Ok := by
  obtain ⟨sv, rv, _, h2, _⟩ := h.ls
  exact h2.ok

/-- A new block takes the place of the one beside. -/
theorem Two.box (h : Two B g r X o s q w0 w) (o' : Obj) : Two B g r w.heap.size o' s q w0 (w.alloc o') := by
  obtain ⟨sv, rv, h1, h2, h3, h4⟩ := h.ls
  have ht := (Touch.refl Nothing w).alloc o'
  have hB := h.hB
  have l1 := fun k hk => (h1.own.lt k hk).2
  have l2 := fun k hk => (h2.own.lt k hk).2
  have hgb := lt_of_heap h1.blk
  have hrb := lt_of_heap h2.blk
  have hg := h.hg
  refine ⟨⟨sv, rv, h1.touch ht (fun q => q) (fun _ _ q => q), h2.nothing ht, fun k hk => ⟨(h3 k hk).1, (h3 k hk).2.1, ?_, (h3 k hk).2.2.2⟩, fun k hk => ⟨(h4 k hk).1, (h4 k hk).2.1, ?_⟩⟩, h.hb.alloc hB.1 _, ⟨hg.1, hg.2.1, hg.2.2.1, by omega, by omega⟩, by simp; omega, heap_alloc_new _ _⟩
  · have := l1 k hk; omega
  · have := l2 k hk; omega
end

theorem Two.first {B X : Nat} {w0 w w1 : World} {o : Obj} {W D H : Int} (h : mayBe W D H) (hb : Below B w0 w) (hB : B ≤ w.heap.size) (hx : w.heap[X]? = some o) (hw : w1 = (w.alloc (ledC (newLg W D H) (.slice none 0 0))).alloc (rledC (newLg W D H) (.slice none 0 0))) :
    ∀ w2, Touch Nothing w1 w2 → Two B w.heap.size (w.heap.size + 1) X o (newLg W D H) (newLg W D H) w0 w2 := by
  intro w2 ht
  subst hw
  have hb1 := (hb.alloc hB (ledC (newLg W D H) (.slice none 0 0)))
  have hb2 := hb1.alloc (by simp; omega) (rledC (newLg W D H) (.slice none 0 0))
  have hsz := ht.size
  simp at hsz
  have hX := lt_of_heap hx
  have g1 : ((w.alloc (ledC (newLg W D H) (.slice none 0 0))).alloc (rledC (newLg W D H) (.slice none 0 0))).heap[w.heap.size]? = some (ledC (newLg W D H) (.slice none 0 0)) := by
    rw [Below.heap_alloc _ _ _ (by simp)]; exact heap_alloc_new _ _
  have g2 : ((w.alloc (ledC (newLg W D H) (.slice none 0 0))).alloc (rledC (newLg W D H) (.slice none 0 0))).heap[w.heap.size + 1]? = some (rledC (newLg W D H) (.slice none 0 0)) := by
    have := heap_alloc_new (w.alloc (ledC (newLg W D H) (.slice none 0 0))) (rledC (newLg W D H) (.slice none 0 0))
    simpa using this
  have g3 : ((w.alloc (ledC (newLg W D H) (.slice none 0 0))).alloc (rledC (newLg W D H) (.slice none 0 0))).heap[X]? = some o := by
    rw [Below.heap_alloc _ _ _ (by simp; omega), Below.heap_alloc _ _ _ hX]; exact hx
  exact ⟨⟨_, _, ⟨ht.heap g1 (fun q => q), World.ownsRow_nil _ _ _ _, by simp [Value.ownBlock], newLg_ok h⟩, ⟨ht.heap g2 (fun q => q), World.ownsRow_nil _ _ _ _, by simp [Value.ownBlock], newLg_ok h⟩, fun k hk => by simp [Value.ownBlock] at hk, fun k hk => by simp [Value.ownBlock] at hk⟩,
    hb2.trans (ht.below (by simp; omega) fun _ _ q => q), ⟨hB, by omega, by omega, by omega, by omega⟩, by omega, ht.heap g3 (fun q => q)⟩

theorem Sm.first (W D H : Int) : Sm (newLg W D H) (newLg W D H) := ⟨rfl, rfl, rfl, rfl, rfl⟩

end Go.Proofs.Ytikjcobdddjlbaa
