/-
  A row of bytes that was made of a string: what stands in it, and behind a store.
-/
import Derived.Test.YtfnmnmjpcamkiaaMem
import Derived.Test.YtfnmnmjpcamkiaaEnc
import Derived.Lib.ConvBytes
namespace Go.Proofs.Ytfnmnmjpcamkiaa
open Go.RowKit
set_option linter.unusedVariables false
set_option linter.unusedSimpArgs false

/-- Block g holds these bytes, none of them frozen; perhaps more behind. -/
def By (w : World) (g : Nat) (l : List UInt8) : Prop :=
  ∃ (cs : Array Value) (lo hi : Nat), w.heap[g]? = some (.cells cs 5 (lo, hi)) ∧ l.length ≤ lo ∧ ∀ i (h : i < l.length), cs[i]? = some (byteV l[i])

theorem by_new (w : World) (s : ByteArray) : By (Lib.bytesWorld w 5 s) w.heap.size s.data.toList := by
  refine ⟨_, _, _, Lib.bytesWorld_at_new w 5 s, ?_, ?_⟩
  · simp [Lib.bytesCells]
  · intro i hi
    have h2 : i < s.data.size := by simpa using hi
    have h3 : i < s.size := h2
    simp [Lib.bytesCells, Array.getElem?_append, h2, h3, byteV]

theorem touch_bytesWorld (w : World) (s : ByteArray) : Touch Nothing w (Lib.bytesWorld w 5 s) := by
  refine ⟨?_, ?_, ?_, ?_, fun k hk _ => Lib.bytesWorld_at_old w 5 s k hk⟩
  · unfold Lib.bytesWorld World.freeze
    split <;> rfl
  · unfold Lib.bytesWorld World.freeze
    split <;> rfl
  · unfold Lib.bytesWorld World.freeze
    split <;> rfl
  · rw [Lib.bytesWorld_size]; omega

theorem By.lt {w : World} {g : Nat} {l : List UInt8} (h : By w g l) : g < w.heap.size := by
  obtain ⟨cs, lo, hi, hg, _⟩ := h
  exact lt_of_heap hg

theorem By.keep {F : Nat → Prop} {w w' : World} {g : Nat} {l : List UInt8} (h : By w g l) (ht : Touch F w w') (hf : ¬ F g) : By w' g l := by
  obtain ⟨cs, lo, hi, hg, h1, h2⟩ := h
  exact ⟨cs, lo, hi, ht.heap hg hf, h1, h2⟩

theorem By.cell {w : World} {g : Nat} {l : List UInt8} (h : By w g l) (i : Nat) (hi : i < l.length) : w.cell? ⟨g, i, none⟩ = some (byteV l[i]) := by
  obtain ⟨cs, lo, hi2, hg, h1, h2⟩ := h
  rw [cell_blk hg]
  exact h2 i hi

theorem By.frz {w : World} {g : Nat} {l : List UInt8} (h : By w g l) (i : Nat) (hi : i < l.length) : w.frozen? ⟨g, i, none⟩ = false := by
  obtain ⟨cs, lo, hi2, hg, h1, h2⟩ := h
  simp [World.frozen?, hg]
  omega

theorem By.set {w : World} {g : Nat} {l : List UInt8} (h : By w g l) (i : Nat) (b : UInt8) {v : Value} (hv : v = byteV b) : By (w.setCell ⟨g, i, none⟩ v) g (l.set i b) := by
  subst hv
  obtain ⟨cs, lo, hi2, hg, h1, h2⟩ := h
  refine ⟨_, lo, hi2, heap_setCell_same hg i _, by simpa using h1, fun j hj => ?_⟩
  have hj2 : j < l.length := by simpa using hj
  have hc := h2 j hj2
  have hjs : j < cs.size := (Array.getElem?_eq_some_iff.1 hc).1
  by_cases e : i = j
  · subst e
    simp [Array.getElem?_setIfInBounds, hjs]
  · simp only [List.getElem_set, e, if_false]
    rw [Array.getElem?_setIfInBounds_ne e, hc]

theorem By.sl {w : World} {g : Nat} {l : List UInt8} (h : By w g l) : SlB w (some ⟨g, 0, none⟩) l.length l :=
  ⟨Nat.le_refl _, fun i hi => ⟨g, 0, rfl, by rw [Nat.zero_add]; exact h.cell i hi⟩⟩

theorem touch_byte (w : World) (g i : Nat) (v : Value) : Touch (fun k => k = g) w (w.setCell ⟨g, i, none⟩ v) := (Touch.refl (fun k => k = g) w).setCell (p := ⟨g, i, none⟩) (fun _ => rfl) v

/-! Numbers of turned bytes. -/

theorem decL_cons (b : UInt8) (l : List UInt8) : decL (b :: l) = b.toNat + 256 * decL l := rfl

theorem decL_snoc (l : List UInt8) (b : UInt8) : decL (l ++ [b]) = decL l + 256 ^ l.length * b.toNat := by
  rw [decL_append]
  simp [decL]

/-- A list of 32: its first, its last, and what is between. -/
theorem ends32 (l : List UInt8) (h : l.length = 32) : ∃ (a b : UInt8) (m : List UInt8), m.length = 30 ∧ l = a :: m ++ [b] := by
  match l, h with
  | a :: t, h =>
    have ht : t.length = 31 := by simpa using h
    have hne : t ≠ [] := by intro e; subst e; simp at ht
    refine ⟨a, t.getLast hne, t.dropLast, by simp [ht], ?_⟩
    rw [List.cons_append, List.dropLast_concat_getLast]

theorem set_first (a b c : UInt8) (m : List UInt8) : (a :: m ++ [b]).set 0 c = c :: m ++ [b] := rfl
theorem set_last (a b c : UInt8) (m : List UInt8) (h : m.length = 30) : (a :: m ++ [b]).set 31 c = a :: m ++ [c] := by
  rw [List.cons_append, List.set_cons_succ, List.set_append_right _ _ (by omega), h]
  rfl

theorem p30 : (256 : Nat) ^ 30 = 1766847064778384329583297500742918515827483896875618958121606201292619776 := by decide

theorem decL_ends (a b : UInt8) (m : List UInt8) (h : m.length = 30) : ∃ k, k < 1766847064778384329583297500742918515827483896875618958121606201292619776 ∧ ∀ x y : UInt8, decL (x :: m ++ [y]) = x.toNat + 256 * k + 452312848583266388373324160190187140051835877600158453279131187530910662656 * y.toNat := by
  refine ⟨decL m, ?_, fun x y => ?_⟩
  · have := decL_lt m
    rw [h, p30] at this
    exact this
  · rw [List.cons_append, decL_cons, decL_snoc, h, p30]
    omega

theorem ends_at0 (a b : UInt8) (m : List UInt8) (h : (a :: m ++ [b]).length = 32) : (a :: m ++ [b])[0] = a := rfl
theorem ends_at31 (a b : UInt8) (m : List UInt8) (h : m.length = 30) (h2 : 31 < (a :: m ++ [b]).length) : (a :: m ++ [b])[31] = b := by
  have : (a :: m ++ [b]) = (a :: m) ++ [b] := rfl
  rw [List.getElem_append_right (as := a :: m) (by simp [h])]
  simp [h]

end Go.Proofs.Ytfnmnmjpcamkiaa
