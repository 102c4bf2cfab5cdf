/-
  Layer 2: clamped. (Printed by wip/tools/mkclamp.py.)
-/
import Derived.Test.YtfnmnmjpcamkiaaCv2
import Derived.Test.YtfnmnmjpcamkiaaPxt
import Derived.Lib.BufferWrite
namespace Go.Proofs.Ytfnmnmjpcamkiaa
open Go.RowKit
set_option linter.unusedVariables false
set_option linter.unusedSimpArgs false

/-- A scalar's number, clamped. -/
def clampN (n : Nat) : Nat := n / 8 % 3618502788666131106986593281521497120414687020801267626233049500247285301248 * 8 + 28948022309329048855892746252171976963317496166410141009864396001978282409984

theorem clampN_lt (n : Nat) : clampN n < 57896044618658097711785492504343953926634992332820282019728792003956564819968 := by
  unfold clampN
  omega

set_option maxRecDepth 100000 in
theorem and248 : ∀ b : Fin 256, bits .and .u8 (b.val : Int) 248 = ((b.val - b.val % 8 : Nat) : Int) := by decide
set_option maxRecDepth 100000 in
theorem and127 : ∀ b : Fin 256, bits .and .u8 (b.val : Int) 127 = ((b.val % 128 : Nat) : Int) := by decide
set_option maxRecDepth 100000 in
theorem or64 : ∀ b : Fin 128, bits .or .u8 (b.val : Int) 64 = ((b.val % 64 + 64 : Nat) : Int) := by decide

theorem list_cons {n : Nat} {l : List UInt8} (h : l.length = n + 1) : ∃ b t, l = b :: t ∧ t.length = n := by
  match l, h with
  | b :: t, h => exact ⟨b, t, rfl, by simpa using h⟩

theorem list32 (l : List UInt8) (h : l.length = 32) : ∃ b0 b1 b2 b3 b4 b5 b6 b7 b8 b9 b10 b11 b12 b13 b14 b15 b16 b17 b18 b19 b20 b21 b22 b23 b24 b25 b26 b27 b28 b29 b30 b31 : UInt8, l = [b0, b1, b2, b3, b4, b5, b6, b7, b8, b9, b10, b11, b12, b13, b14, b15, b16, b17, b18, b19, b20, b21, b22, b23, b24, b25, b26, b27, b28, b29, b30, b31] := by
  obtain ⟨b0, l0, e0, h0⟩ := list_cons h
  obtain ⟨b1, l1, e1, h1⟩ := list_cons h0
  obtain ⟨b2, l2, e2, h2⟩ := list_cons h1
  obtain ⟨b3, l3, e3, h3⟩ := list_cons h2
  obtain ⟨b4, l4, e4, h4⟩ := list_cons h3
  obtain ⟨b5, l5, e5, h5⟩ := list_cons h4
  obtain ⟨b6, l6, e6, h6⟩ := list_cons h5
  obtain ⟨b7, l7, e7, h7⟩ := list_cons h6
  obtain ⟨b8, l8, e8, h8⟩ := list_cons h7
  obtain ⟨b9, l9, e9, h9⟩ := list_cons h8
  obtain ⟨b10, l10, e10, h10⟩ := list_cons h9
  obtain ⟨b11, l11, e11, h11⟩ := list_cons h10
  obtain ⟨b12, l12, e12, h12⟩ := list_cons h11
  obtain ⟨b13, l13, e13, h13⟩ := list_cons h12
  obtain ⟨b14, l14, e14, h14⟩ := list_cons h13
  obtain ⟨b15, l15, e15, h15⟩ := list_cons h14
  obtain ⟨b16, l16, e16, h16⟩ := list_cons h15
  obtain ⟨b17, l17, e17, h17⟩ := list_cons h16
  obtain ⟨b18, l18, e18, h18⟩ := list_cons h17
  obtain ⟨b19, l19, e19, h19⟩ := list_cons h18
  obtain ⟨b20, l20, e20, h20⟩ := list_cons h19
  obtain ⟨b21, l21, e21, h21⟩ := list_cons h20
  obtain ⟨b22, l22, e22, h22⟩ := list_cons h21
  obtain ⟨b23, l23, e23, h23⟩ := list_cons h22
  obtain ⟨b24, l24, e24, h24⟩ := list_cons h23
  obtain ⟨b25, l25, e25, h25⟩ := list_cons h24
  obtain ⟨b26, l26, e26, h26⟩ := list_cons h25
  obtain ⟨b27, l27, e27, h27⟩ := list_cons h26
  obtain ⟨b28, l28, e28, h28⟩ := list_cons h27
  obtain ⟨b29, l29, e29, h29⟩ := list_cons h28
  obtain ⟨b30, l30, e30, h30⟩ := list_cons h29
  obtain ⟨b31, l31, e31, h31⟩ := list_cons h30
  obtain rfl : l31 = [] := List.eq_nil_of_length_eq_zero h31
  subst e31 e30 e29 e28 e27 e26 e25 e24 e23 e22 e21 e20 e19 e18 e17 e16 e15 e14 e13 e12 e11 e10 e9 e8 e7 e6 e5 e4 e3 e2 e1 e0
  exact ⟨b0, b1, b2, b3, b4, b5, b6, b7, b8, b9, b10, b11, b12, b13, b14, b15, b16, b17, b18, b19, b20, b21, b22, b23, b24, b25, b26, b27, b28, b29, b30, b31, rfl⟩

theorem clamp_list (b0 b1 b2 b3 b4 b5 b6 b7 b8 b9 b10 b11 b12 b13 b14 b15 b16 b17 b18 b19 b20 b21 b22 b23 b24 b25 b26 b27 b28 b29 b30 b31 x y : UInt8) (hx : x.toNat = b0.toNat - b0.toNat % 8) (hy : y.toNat = b31.toNat % 64 + 64) : bytesTo (clampN (decL [b0, b1, b2, b3, b4, b5, b6, b7, b8, b9, b10, b11, b12, b13, b14, b15, b16, b17, b18, b19, b20, b21, b22, b23, b24, b25, b26, b27, b28, b29, b30, b31])) 32 = #[byteV x, byteV b1, byteV b2, byteV b3, byteV b4, byteV b5, byteV b6, byteV b7, byteV b8, byteV b9, byteV b10, byteV b11, byteV b12, byteV b13, byteV b14, byteV b15, byteV b16, byteV b17, byteV b18, byteV b19, byteV b20, byteV b21, byteV b22, byteV b23, byteV b24, byteV b25, byteV b26, byteV b27, byteV b28, byteV b29, byteV b30, byteV y] := by
  have e : clampN (decL [b0, b1, b2, b3, b4, b5, b6, b7, b8, b9, b10, b11, b12, b13, b14, b15, b16, b17, b18, b19, b20, b21, b22, b23, b24, b25, b26, b27, b28, b29, b30, b31]) = decL [x, b1, b2, b3, b4, b5, b6, b7, b8, b9, b10, b11, b12, b13, b14, b15, b16, b17, b18, b19, b20, b21, b22, b23, b24, b25, b26, b27, b28, b29, b30, y] := by
    have ha : decL [b0, b1, b2, b3, b4, b5, b6, b7, b8, b9, b10, b11, b12, b13, b14, b15, b16, b17, b18, b19, b20, b21, b22, b23, b24, b25, b26, b27, b28, b29, b30, b31] = b0.toNat + 256 * (decL [b1, b2, b3, b4, b5, b6, b7, b8, b9, b10, b11, b12, b13, b14, b15, b16, b17, b18, b19, b20, b21, b22, b23, b24, b25, b26, b27, b28, b29, b30] + 256 ^ 30 * b31.toNat) := by
      rw [show [b0, b1, b2, b3, b4, b5, b6, b7, b8, b9, b10, b11, b12, b13, b14, b15, b16, b17, b18, b19, b20, b21, b22, b23, b24, b25, b26, b27, b28, b29, b30, b31] = b0 :: ([b1, b2, b3, b4, b5, b6, b7, b8, b9, b10, b11, b12, b13, b14, b15, b16, b17, b18, b19, b20, b21, b22, b23, b24, b25, b26, b27, b28, b29, b30] ++ [b31]) from rfl]
      simp only [decL]
      rw [decL_append]
      rfl
    have hb : decL [x, b1, b2, b3, b4, b5, b6, b7, b8, b9, b10, b11, b12, b13, b14, b15, b16, b17, b18, b19, b20, b21, b22, b23, b24, b25, b26, b27, b28, b29, b30, y] = x.toNat + 256 * (decL [b1, b2, b3, b4, b5, b6, b7, b8, b9, b10, b11, b12, b13, b14, b15, b16, b17, b18, b19, b20, b21, b22, b23, b24, b25, b26, b27, b28, b29, b30] + 256 ^ 30 * y.toNat) := by
      rw [show [x, b1, b2, b3, b4, b5, b6, b7, b8, b9, b10, b11, b12, b13, b14, b15, b16, b17, b18, b19, b20, b21, b22, b23, b24, b25, b26, b27, b28, b29, b30, y] = x :: ([b1, b2, b3, b4, b5, b6, b7, b8, b9, b10, b11, b12, b13, b14, b15, b16, b17, b18, b19, b20, b21, b22, b23, b24, b25, b26, b27, b28, b29, b30] ++ [y]) from rfl]
      simp only [decL]
      rw [decL_append]
      rfl
    have hm : decL [b1, b2, b3, b4, b5, b6, b7, b8, b9, b10, b11, b12, b13, b14, b15, b16, b17, b18, b19, b20, b21, b22, b23, b24, b25, b26, b27, b28, b29, b30] < 256 ^ 30 := decL_lt _
    have h0 : b0.toNat < 256 := b0.toNat_lt
    have h1 : b31.toNat < 256 := b31.toNat_lt
    obtain ⟨m, em⟩ : ∃ m, m = decL [b1, b2, b3, b4, b5, b6, b7, b8, b9, b10, b11, b12, b13, b14, b15, b16, b17, b18, b19, b20, b21, b22, b23, b24, b25, b26, b27, b28, b29, b30] := ⟨_, rfl⟩
    rw [← em] at ha hb hm
    rw [ha, hb, hx, hy]
    unfold clampN
    simp only [Nat.reducePow] at hm ⊢
    omega
  have h := encL_decL [x, b1, b2, b3, b4, b5, b6, b7, b8, b9, b10, b11, b12, b13, b14, b15, b16, b17, b18, b19, b20, b21, b22, b23, b24, b25, b26, b27, b28, b29, b30, y]
  rw [show ([x, b1, b2, b3, b4, b5, b6, b7, b8, b9, b10, b11, b12, b13, b14, b15, b16, b17, b18, b19, b20, b21, b22, b23, b24, b25, b26, b27, b28, b29, b30, y] : List UInt8).length = 32 from rfl] at h
  unfold bytesTo
  rw [e, h]
  rfl


theorem touch_setRow (w : World) (g : Nat) (cs : Array Value) : Touch (fun i => i = g) w (w.setRow g cs) :=
  ⟨rfl, rfl, rfl, by simp [World.setRow], fun k hk hn => by
    show (w.heap.modify g _)[k]? = _
    rw [Array.getElem?_modify, if_neg (fun e => hn e.symm)]⟩

theorem heap_setRow {w : World} {g : Nat} {cs : Array Value} {c : Array Value} {t : TypeId} {f : Nat × Nat} (h : w.heap[g]? = some (.cells c t f)) : (w.setRow g cs).heap[g]? = some (.cells cs t f) := by
  show (w.heap.modify g _)[g]? = _
  rw [Array.getElem?_modify, if_pos rfl, h]
  rfl

theorem copy32 (w : World) (g : Nat) (k : ByteArray) (hk : k.size = 32) (hg : w.heap[g]? = some (.cells #[.int .u8 0, .int .u8 0, .int .u8 0, .int .u8 0, .int .u8 0, .int .u8 0, .int .u8 0, .int .u8 0, .int .u8 0, .int .u8 0, .int .u8 0, .int .u8 0, .int .u8 0, .int .u8 0, .int .u8 0, .int .u8 0, .int .u8 0, .int .u8 0, .int .u8 0, .int .u8 0, .int .u8 0, .int .u8 0, .int .u8 0, .int .u8 0, .int .u8 0, .int .u8 0, .int .u8 0, .int .u8 0, .int .u8 0, .int .u8 0, .int .u8 0, .int .u8 0] 67)) :
    ∃ w2 : World, (Builtin.copy_ #[42, 9] 3 #[.slice (some ⟨g, 0, none⟩) 32 32, .string k]).run Try.prog w = .ok (.int .i64 32) w2 ∧ Touch (fun i => i = g) w w2 ∧ w2.heap[g]? = some (.cells (Lib.byteCells k.data.toList).toArray 67) := by
  have h := Lib.run_copy_row_string (P := Try.prog) w 42 9 3 5 g 0 32 32 k _ 67 Try.underlying42 (by kernel_rfl) hg (by omega) (by rw [hk]; exact Nat.le_refl _)
  refine ⟨_, by rw [h, hk]; rfl, touch_setRow _ _ _, ?_⟩
  rw [heap_setRow hg]
  simp


theorem touch_setCells (w : World) (g : Nat) : ∀ (vs : List Value) (o : Nat), Touch (fun i => i = g) w (w.setCells g o vs)
  | [], _ => Touch.refl _ _
  | v :: r, o => by
    have h := touch_setCells (w.setCell ⟨g, o, none⟩ v) g r (o + 1)
    exact (touch_el1 (Touch.refl _ w)).trans' h

theorem heap_setCells_at {g : Nat} {t : TypeId} {f : Nat × Nat} : ∀ (vs old pre : List Value) (w : World), w.heap[g]? = some (.cells (pre ++ old).toArray t f) → old.length = vs.length → (w.setCells g pre.length vs).heap[g]? = some (.cells (pre ++ vs).toArray t f)
  | [], old, pre, w, h, hl => by
    obtain rfl := List.eq_nil_of_length_eq_zero hl
    exact h
  | v :: r, [], _, _, _, hl => by simp at hl
  | v :: r, a :: old, pre, w, h, hl => by
    have h1 := heap_setCell_same h pre.length v
    have h2 : (w.setCell ⟨g, pre.length, none⟩ v).heap[g]? = some (.cells ((pre ++ [v]) ++ old).toArray t f) := by
      rw [h1]
      congr 2
      simp
    have h3 := heap_setCells_at r old (pre ++ [v]) _ h2 (by simpa using hl)
    rw [List.append_assoc, List.singleton_append, List.length_append] at h3
    exact h3

theorem heap_setCells_all {w : World} {g : Nat} {t : TypeId} {f : Nat × Nat} {c : Array Value} (vs : List Value) (h : w.heap[g]? = some (.cells c t f)) (hl : c.toList.length = vs.length) : (w.setCells g 0 vs).heap[g]? = some (.cells vs.toArray t f) :=
  heap_setCells_at vs c.toList [] w (by simpa using h) hl

theorem clamp_cells (b0 b1 b2 b3 b4 b5 b6 b7 b8 b9 b10 b11 b12 b13 b14 b15 b16 b17 b18 b19 b20 b21 b22 b23 b24 b25 b26 b27 b28 b29 b30 b31 : UInt8) (c : Array Value) (h2 : bits .or .u8 ((b31.toNat % 128 : Nat) : Int) 64 = ((b31.toNat % 128 % 64 + 64 : Nat) : Int)) (hc : c = #[byteV (UInt8.ofNat (b0.toNat - b0.toNat % 8)), byteV b1, byteV b2, byteV b3, byteV b4, byteV b5, byteV b6, byteV b7, byteV b8, byteV b9, byteV b10, byteV b11, byteV b12, byteV b13, byteV b14, byteV b15, byteV b16, byteV b17, byteV b18, byteV b19, byteV b20, byteV b21, byteV b22, byteV b23, byteV b24, byteV b25, byteV b26, byteV b27, byteV b28, byteV b29, byteV b30, byteV (UInt8.ofNat (b31.toNat % 128 % 64 + 64))]) :
    ((#[.int .u8 (b0.toNat : Int), .int .u8 (b1.toNat : Int), .int .u8 (b2.toNat : Int), .int .u8 (b3.toNat : Int), .int .u8 (b4.toNat : Int), .int .u8 (b5.toNat : Int), .int .u8 (b6.toNat : Int), .int .u8 (b7.toNat : Int), .int .u8 (b8.toNat : Int), .int .u8 (b9.toNat : Int), .int .u8 (b10.toNat : Int), .int .u8 (b11.toNat : Int), .int .u8 (b12.toNat : Int), .int .u8 (b13.toNat : Int), .int .u8 (b14.toNat : Int), .int .u8 (b15.toNat : Int), .int .u8 (b16.toNat : Int), .int .u8 (b17.toNat : Int), .int .u8 (b18.toNat : Int), .int .u8 (b19.toNat : Int), .int .u8 (b20.toNat : Int), .int .u8 (b21.toNat : Int), .int .u8 (b22.toNat : Int), .int .u8 (b23.toNat : Int), .int .u8 (b24.toNat : Int), .int .u8 (b25.toNat : Int), .int .u8 (b26.toNat : Int), .int .u8 (b27.toNat : Int), .int .u8 (b28.toNat : Int), .int .u8 (b29.toNat : Int), .int .u8 (b30.toNat : Int), .int .u8 (b31.toNat : Int)] : Array Value).setIfInBounds 0 (.int .u8 ((b0.toNat - b0.toNat % 8 : Nat) : Int))).setIfInBounds 31 (.int .u8 (bits .or .u8 ((b31.toNat : Int) % 128) 64)) = c := by
  rw [hc, show ((b31.toNat : Int) % 128) = ((b31.toNat % 128 : Nat) : Int) by simp, h2]
  have h0 := b0.toNat_lt
  have e0 : byteV (UInt8.ofNat (b0.toNat - b0.toNat % 8)) = .int .u8 ((b0.toNat - b0.toNat % 8 : Nat) : Int) := by
    unfold byteV
    rw [UInt8.toNat_ofNat_of_lt' (show b0.toNat - b0.toNat % 8 < 256 by omega)]
  have e1 : byteV (UInt8.ofNat (b31.toNat % 128 % 64 + 64)) = .int .u8 ((b31.toNat % 128 % 64 + 64 : Nat) : Int) := by
    unfold byteV
    rw [UInt8.toNat_ofNat_of_lt' (show b31.toNat % 128 % 64 + 64 < 256 by omega)]
  rw [e0, e1]
  rfl


set_option maxRecDepth 100000 in
set_option maxHeartbeats 1600000 in
theorem clamped_any (w : World) (k : ByteArray) (hk : k.size = 32) : Calls Try.prog 72 #[.string k] w fun r w' => r = .returned (.agg (bytesTo (clampN (decL k.data.toList)) 32)) ∧ Touch Nothing w w' := by
  have hk2 : k.size ≤ 32 := by omega
  have hk3 : 32 ≤ k.size := by omega
  obtain ⟨b0, b1, b2, b3, b4, b5, b6, b7, b8, b9, b10, b11, b12, b13, b14, b15, b16, b17, b18, b19, b20, b21, b22, b23, b24, b25, b26, b27, b28, b29, b30, b31, hl⟩ := list32 k.data.toList (by rw [← Lib.size_eq]; exact hk)
  have hg0 : ((w.alloc (.cells #[.int .u8 0, .int .u8 0, .int .u8 0, .int .u8 0, .int .u8 0, .int .u8 0, .int .u8 0, .int .u8 0, .int .u8 0, .int .u8 0, .int .u8 0, .int .u8 0, .int .u8 0, .int .u8 0, .int .u8 0, .int .u8 0, .int .u8 0, .int .u8 0, .int .u8 0, .int .u8 0, .int .u8 0, .int .u8 0, .int .u8 0, .int .u8 0, .int .u8 0, .int .u8 0, .int .u8 0, .int .u8 0, .int .u8 0, .int .u8 0, .int .u8 0, .int .u8 0] 67)).alloc (.cells #[.int .u8 0, .int .u8 0, .int .u8 0, .int .u8 0, .int .u8 0, .int .u8 0, .int .u8 0, .int .u8 0, .int .u8 0, .int .u8 0, .int .u8 0, .int .u8 0, .int .u8 0, .int .u8 0, .int .u8 0, .int .u8 0, .int .u8 0, .int .u8 0, .int .u8 0, .int .u8 0, .int .u8 0, .int .u8 0, .int .u8 0, .int .u8 0, .int .u8 0, .int .u8 0, .int .u8 0, .int .u8 0, .int .u8 0, .int .u8 0, .int .u8 0, .int .u8 0] 67)).heap[w.heap.size + 1]? = some (.cells #[.int .u8 0, .int .u8 0, .int .u8 0, .int .u8 0, .int .u8 0, .int .u8 0, .int .u8 0, .int .u8 0, .int .u8 0, .int .u8 0, .int .u8 0, .int .u8 0, .int .u8 0, .int .u8 0, .int .u8 0, .int .u8 0, .int .u8 0, .int .u8 0, .int .u8 0, .int .u8 0, .int .u8 0, .int .u8 0, .int .u8 0, .int .u8 0, .int .u8 0, .int .u8 0, .int .u8 0, .int .u8 0, .int .u8 0, .int .u8 0, .int .u8 0, .int .u8 0] 67) := by
    have := heap_alloc_new (w.alloc (.cells #[.int .u8 0, .int .u8 0, .int .u8 0, .int .u8 0, .int .u8 0, .int .u8 0, .int .u8 0, .int .u8 0, .int .u8 0, .int .u8 0, .int .u8 0, .int .u8 0, .int .u8 0, .int .u8 0, .int .u8 0, .int .u8 0, .int .u8 0, .int .u8 0, .int .u8 0, .int .u8 0, .int .u8 0, .int .u8 0, .int .u8 0, .int .u8 0, .int .u8 0, .int .u8 0, .int .u8 0, .int .u8 0, .int .u8 0, .int .u8 0, .int .u8 0, .int .u8 0] 67)) (.cells #[.int .u8 0, .int .u8 0, .int .u8 0, .int .u8 0, .int .u8 0, .int .u8 0, .int .u8 0, .int .u8 0, .int .u8 0, .int .u8 0, .int .u8 0, .int .u8 0, .int .u8 0, .int .u8 0, .int .u8 0, .int .u8 0, .int .u8 0, .int .u8 0, .int .u8 0, .int .u8 0, .int .u8 0, .int .u8 0, .int .u8 0, .int .u8 0, .int .u8 0, .int .u8 0, .int .u8 0, .int .u8 0, .int .u8 0, .int .u8 0, .int .u8 0, .int .u8 0] 67)
    simpa using this
  have ht0 : Touch Nothing w ((w.alloc (.cells #[.int .u8 0, .int .u8 0, .int .u8 0, .int .u8 0, .int .u8 0, .int .u8 0, .int .u8 0, .int .u8 0, .int .u8 0, .int .u8 0, .int .u8 0, .int .u8 0, .int .u8 0, .int .u8 0, .int .u8 0, .int .u8 0, .int .u8 0, .int .u8 0, .int .u8 0, .int .u8 0, .int .u8 0, .int .u8 0, .int .u8 0, .int .u8 0, .int .u8 0, .int .u8 0, .int .u8 0, .int .u8 0, .int .u8 0, .int .u8 0, .int .u8 0, .int .u8 0] 67)).alloc (.cells #[.int .u8 0, .int .u8 0, .int .u8 0, .int .u8 0, .int .u8 0, .int .u8 0, .int .u8 0, .int .u8 0, .int .u8 0, .int .u8 0, .int .u8 0, .int .u8 0, .int .u8 0, .int .u8 0, .int .u8 0, .int .u8 0, .int .u8 0, .int .u8 0, .int .u8 0, .int .u8 0, .int .u8 0, .int .u8 0, .int .u8 0, .int .u8 0, .int .u8 0, .int .u8 0, .int .u8 0, .int .u8 0, .int .u8 0, .int .u8 0, .int .u8 0, .int .u8 0] 67)) := ((Touch.refl Nothing w).alloc _).alloc _
  have hr0 : ((w.alloc (.cells #[.int .u8 0, .int .u8 0, .int .u8 0, .int .u8 0, .int .u8 0, .int .u8 0, .int .u8 0, .int .u8 0, .int .u8 0, .int .u8 0, .int .u8 0, .int .u8 0, .int .u8 0, .int .u8 0, .int .u8 0, .int .u8 0, .int .u8 0, .int .u8 0, .int .u8 0, .int .u8 0, .int .u8 0, .int .u8 0, .int .u8 0, .int .u8 0, .int .u8 0, .int .u8 0, .int .u8 0, .int .u8 0, .int .u8 0, .int .u8 0, .int .u8 0, .int .u8 0] 67)).alloc (.cells #[.int .u8 0, .int .u8 0, .int .u8 0, .int .u8 0, .int .u8 0, .int .u8 0, .int .u8 0, .int .u8 0, .int .u8 0, .int .u8 0, .int .u8 0, .int .u8 0, .int .u8 0, .int .u8 0, .int .u8 0, .int .u8 0, .int .u8 0, .int .u8 0, .int .u8 0, .int .u8 0, .int .u8 0, .int .u8 0, .int .u8 0, .int .u8 0, .int .u8 0, .int .u8 0, .int .u8 0, .int .u8 0, .int .u8 0, .int .u8 0, .int .u8 0, .int .u8 0] 67)).heap[w.heap.size]? = some (.cells #[.int .u8 0, .int .u8 0, .int .u8 0, .int .u8 0, .int .u8 0, .int .u8 0, .int .u8 0, .int .u8 0, .int .u8 0, .int .u8 0, .int .u8 0, .int .u8 0, .int .u8 0, .int .u8 0, .int .u8 0, .int .u8 0, .int .u8 0, .int .u8 0, .int .u8 0, .int .u8 0, .int .u8 0, .int .u8 0, .int .u8 0, .int .u8 0, .int .u8 0, .int .u8 0, .int .u8 0, .int .u8 0, .int .u8 0, .int .u8 0, .int .u8 0, .int .u8 0] 67) := ((Touch.refl Nothing _).alloc _).heap (heap_alloc_new _ _) (fun q => q)
  obtain ⟨w2, hcopy, ht, hg⟩ := copy32 _ _ k hk hg0
  have hr := ht.heap hr0 (show ¬ w.heap.size = w.heap.size + 1 by omega)
  have ht2 : Touch Nothing w w2 := ht0.trans ht fun i hi q => by omega
  rw [hl] at hg ⊢
  replace hg : w2.heap[w.heap.size + 1]? = some (.cells #[.int .u8 (b0.toNat : Int), .int .u8 (b1.toNat : Int), .int .u8 (b2.toNat : Int), .int .u8 (b3.toNat : Int), .int .u8 (b4.toNat : Int), .int .u8 (b5.toNat : Int), .int .u8 (b6.toNat : Int), .int .u8 (b7.toNat : Int), .int .u8 (b8.toNat : Int), .int .u8 (b9.toNat : Int), .int .u8 (b10.toNat : Int), .int .u8 (b11.toNat : Int), .int .u8 (b12.toNat : Int), .int .u8 (b13.toNat : Int), .int .u8 (b14.toNat : Int), .int .u8 (b15.toNat : Int), .int .u8 (b16.toNat : Int), .int .u8 (b17.toNat : Int), .int .u8 (b18.toNat : Int), .int .u8 (b19.toNat : Int), .int .u8 (b20.toNat : Int), .int .u8 (b21.toNat : Int), .int .u8 (b22.toNat : Int), .int .u8 (b23.toNat : Int), .int .u8 (b24.toNat : Int), .int .u8 (b25.toNat : Int), .int .u8 (b26.toNat : Int), .int .u8 (b27.toNat : Int), .int .u8 (b28.toNat : Int), .int .u8 (b29.toNat : Int), .int .u8 (b30.toNat : Int), .int .u8 (b31.toNat : Int)] 67) := hg
  have hx0 := and248 ⟨b0.toNat, b0.toNat_lt⟩
  have hx1 := and127 ⟨b31.toNat, b31.toNat_lt⟩
  have hx2 := or64 ⟨b31.toNat % 128, Nat.mod_lt _ (by decide)⟩
  simp only [] at hx0 hx1 hx2
  have hcl := clamp_list b0 b1 b2 b3 b4 b5 b6 b7 b8 b9 b10 b11 b12 b13 b14 b15 b16 b17 b18 b19 b20 b21 b22 b23 b24 b25 b26 b27 b28 b29 b30 b31 (UInt8.ofNat (b0.toNat - b0.toNat % 8)) (UInt8.ofNat (b31.toNat % 128 % 64 + 64)) (by have := b0.toNat_lt; rw [UInt8.toNat_ofNat_of_lt' (show b0.toNat - b0.toNat % 8 < 256 by omega)]) (by rw [UInt8.toNat_ofNat_of_lt' (show b31.toNat % 128 % 64 + 64 < 256 by omega)]; omega)
  obtain ⟨L, hL⟩ : ∃ L, L = bytesTo (clampN (decL [b0, b1, b2, b3, b4, b5, b6, b7, b8, b9, b10, b11, b12, b13, b14, b15, b16, b17, b18, b19, b20, b21, b22, b23, b24, b25, b26, b27, b28, b29, b30, b31])) 32 := ⟨_, rfl⟩
  have hLn : L.toList.length = 32 := by rw [hL, bytesTo_all, List.length_map, encL_length]
  rw [← hL] at hcl ⊢
  have hLo : L.all (·.oneCell') = true := by
    rw [hL]
    refine Array.all_eq_true_iff_forall_mem.2 fun v hv => ?_
    have hv2 := Array.mem_def.1 hv
    rw [bytesTo_all] at hv2
    obtain ⟨x, _, rfl⟩ := List.mem_map.1 hv2
    rfl
  clear hL
  obtain ⟨l, rfl⟩ : ∃ l : List Value, L = l.toArray := ⟨L.toList, by simp⟩
  have hn : l.length = 32 := by simpa using hLn
  clear hk hl hg0 ht0 hr0 ht
  have c0 : w2.cell? ⟨w.heap.size + 1, 0, none⟩ = some (.int .u8 (b0.toNat : Int)) := cell_blk hg 0
  have c31 : w2.cell? ⟨w.heap.size + 1, 31, none⟩ = some (.int .u8 (b31.toNat : Int)) := cell_blk hg 31
  have f0 : w2.frozen? ⟨w.heap.size + 1, 0, none⟩ = false := frz_blk hg 0
  have f31 : w2.frozen? ⟨w.heap.size + 1, 31, none⟩ = false := frz_blk hg 31
  replace hg := Lib.hid hg
  replace hr := Lib.hid hr
  replace ht2 := Lib.hid ht2
  replace hcl := Lib.hid hcl
  replace hn := Lib.hid hn
  replace hLo := Lib.hid hLo
  clear hLn
  go_enter Try.func72, Try.ntmps72
  go_upto_region 5 with fail
  have s1 := heap_setCell_same (heap_setCell_same hg.out 0 (.int .u8 ((b0.toNat - b0.toNat % 8 : Nat) : Int))) 31 (.int .u8 (bits .or .u8 ((b31.toNat : Int) % 128) 64))
  have t1 : Touch (fun j => j = w.heap.size + 1) w2 ((w2.setCell ⟨w.heap.size + 1, 0, none⟩ (.int .u8 ((b0.toNat - b0.toNat % 8 : Nat) : Int))).setCell ⟨w.heap.size + 1, 31, none⟩ (.int .u8 (bits .or .u8 ((b31.toNat : Int) % 128) 64))) := touch_el1 (touch_el1 (Touch.refl _ _))
  have hr3 := t1.heap hr.out (show ¬ w.heap.size = w.heap.size + 1 by omega)
  have ht3 : Touch Nothing w _ := ht2.out.trans t1 fun i hi q => by omega
  rw [clamp_cells b0 b1 b2 b3 b4 b5 b6 b7 b8 b9 b10 b11 b12 b13 b14 b15 b16 b17 b18 b19 b20 b21 b22 b23 b24 b25 b26 b27 b28 b29 b30 b31 _ hx2 hcl.out] at s1
  obtain ⟨w4, e4⟩ : ∃ x : World, x = (w2.setCell ⟨w.heap.size + 1, 0, none⟩ (.int .u8 ((b0.toNat - b0.toNat % 8 : Nat) : Int))).setCell ⟨w.heap.size + 1, 31, none⟩ (.int .u8 (bits .or .u8 ((b31.toNat : Int) % 128) 64)) := ⟨_, rfl⟩
  rw [← e4] at s1 hr3 ht3 ⊢
  clear e4 hg hr hx0 hx1 hx2 c0 c31 f0 f31 t1 ht2 hcopy hcl
  have th : w4.there w.heap.size 0 l.toArray.size := by
    intro j hj
    rw [Nat.zero_add, cell_blk hr3 j]
    have : j < 32 := by simpa [hn.out] using hj
    refine ⟨?_, frz_blk hr3 j⟩
    rw [Array.getElem?_eq_getElem (by simpa using this)]
    rfl
  have s5 := heap_setCells_all l hr3 (by rw [hn.out]; rfl)
  have t5 := touch_setCells w4 w.heap.size l 0
  replace hr3 := Lib.hid hr3
  replace ht3 := Lib.hid ht3
  replace s5 := Lib.hid s5
  replace t5 := Lib.hid t5
  refine wp_region_list (wpList_load_mid rfl 67 _ rfl (w.heap.size + 1) 0 rfl l _ (range_blk s1) Try.underlying67 rfl (by rw [hn.out]; kernel_rfl) ?_)
  refine wpList_store_mid rfl 67 _ _ rfl w.heap.size 0 l.toArray rfl rfl th (by rw [List.size_toArray, hn.out]; kernel_rfl) hLo.out ?_
  refine wpList_nil ?_
  replace s1 := Lib.hid s1
  clear th
  go_wp2
  exact bodyPost_ret (v := .agg l.toArray) (ret_cell rfl rfl s5.out Try.underlying67 rfl (by rw [hn.out]; kernel_rfl)) rfl ⟨rfl, ht3.out.trans t5.out fun i hi q => by omega⟩

end Go.Proofs.Ytfnmnmjpcamkiaa
