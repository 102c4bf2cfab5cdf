/-
  A row of bytes that was made of a string: what stands in it, and behind a store.
  The law CurveBits, walked: the bits that clamping sets do not matter.
-/
import Derived.Test.YtfnmnmjpcamkiaaMem
import Derived.Test.YtfnmnmjpcamkiaaEnc
import Derived.Lib.ConvBytes
import Derived.Test.YtfnmnmjpcamkiaaCl9
namespace Go.Proofs.Ytfnmnmjpcamkiaa
open Go.RowKit
set_option linter.unusedVariables false
set_option linter.unusedSimpArgs false

/-- Block g holds these bytes, none of them frozen; perhaps more behind. -/
def By (w : World) (g : Nat) (l : List UInt8) : Prop :=
  ∃ (cs : Array Value) (lo hi : Nat), w.heap[g]? = some (.cells cs 5 (lo, hi)) ∧ l.length ≤ lo ∧ ∀ i (h : i < l.length), cs[i]? = some (byteV l[i])

theorem by_new (w : World) (s : ByteArray) : By (Lib.bytesWorld w 5 s) w.heap.size s.data.toList := by
  refine ⟨_, _, _, Lib.bytesWorld_at_new w 5 s, ?_, ?_⟩
  · simp [Lib.bytesCells]
  · intro i hi
    have h2 : i < s.data.size := by simpa using hi
    have h3 : i < s.size := h2
    simp [Lib.bytesCells, Array.getElem?_append, h2, h3, byteV]

theorem touch_bytesWorld (w : World) (s : ByteArray) : Touch Nothing w (Lib.bytesWorld w 5 s) := by
  refine ⟨?_, ?_, ?_, ?_, fun k hk _ => Lib.bytesWorld_at_old w 5 s k hk⟩
  · unfold Lib.bytesWorld World.freeze
    split <;> rfl
  · unfold Lib.bytesWorld World.freeze
    split <;> rfl
  · unfold Lib.bytesWorld World.freeze
    split <;> rfl
  · rw [Lib.bytesWorld_size]; omega

theorem By.lt {w : World} {g : Nat} {l : List UInt8} (h : By w g l) : g < w.heap.size := by
  obtain ⟨cs, lo, hi, hg, _⟩ := h
  exact lt_of_heap hg

theorem By.keep {F : Nat → Prop} {w w' : World} {g : Nat} {l : List UInt8} (h : By w g l) (ht : Touch F w w') (hf : ¬ F g) : By w' g l := by
  obtain ⟨cs, lo, hi, hg, h1, h2⟩ := h
  exact ⟨cs, lo, hi, ht.heap hg hf, h1, h2⟩

theorem By.cell {w : World} {g : Nat} {l : List UInt8} (h : By w g l) (i : Nat) (hi : i < l.length) : w.cell? ⟨g, i, none⟩ = some (byteV l[i]) := by
  obtain ⟨cs, lo, hi2, hg, h1, h2⟩ := h
  rw [cell_blk hg]
  exact h2 i hi

theorem By.frz {w : World} {g : Nat} {l : List UInt8} (h : By w g l) (i : Nat) (hi : i < l.length) : w.frozen? ⟨g, i, none⟩ = false := by
  obtain ⟨cs, lo, hi2, hg, h1, h2⟩ := h
  simp [World.frozen?, hg]
  omega

theorem By.set {w : World} {g : Nat} {l : List UInt8} (h : By w g l) (i : Nat) (b : UInt8) {v : Value} (hv : v = byteV b) : By (w.setCell ⟨g, i, none⟩ v) g (l.set i b) := by
  subst hv
  obtain ⟨cs, lo, hi2, hg, h1, h2⟩ := h
  refine ⟨_, lo, hi2, heap_setCell_same hg i _, by simpa using h1, fun j hj => ?_⟩
  have hj2 : j < l.length := by simpa using hj
  have hc := h2 j hj2
  have hjs : j < cs.size := (Array.getElem?_eq_some_iff.1 hc).1
  by_cases e : i = j
  · subst e
    simp [Array.getElem?_setIfInBounds, hjs]
  · simp only [List.getElem_set, e, if_false]
    rw [Array.getElem?_setIfInBounds_ne e, hc]

theorem By.sl {w : World} {g : Nat} {l : List UInt8} (h : By w g l) : SlB w (some ⟨g, 0, none⟩) l.length l :=
  ⟨Nat.le_refl _, fun i hi => ⟨g, 0, rfl, by rw [Nat.zero_add]; exact h.cell i hi⟩⟩

theorem touch_byte (w : World) (g i : Nat) (v : Value) : Touch (fun k => k = g) w (w.setCell ⟨g, i, none⟩ v) := (Touch.refl (fun k => k = g) w).setCell (p := ⟨g, i, none⟩) (fun _ => rfl) v

/-! Numbers of turned bytes. -/

theorem decL_cons (b : UInt8) (l : List UInt8) : decL (b :: l) = b.toNat + 256 * decL l := rfl

theorem decL_snoc (l : List UInt8) (b : UInt8) : decL (l ++ [b]) = decL l + 256 ^ l.length * b.toNat := by
  rw [decL_append]
  simp [decL]

/-- A list of 32: its first, its last, and what is between. -/
theorem ends32 (l : List UInt8) (h : l.length = 32) : ∃ (a b : UInt8) (m : List UInt8), m.length = 30 ∧ l = a :: m ++ [b] := by
  match l, h with
  | a :: t, h =>
    have ht : t.length = 31 := by simpa using h
    have hne : t ≠ [] := by intro e; subst e; simp at ht
    refine ⟨a, t.getLast hne, t.dropLast, by simp [ht], ?_⟩
    rw [List.cons_append, List.dropLast_concat_getLast]

theorem set_first (a b c : UInt8) (m : List UInt8) : (a :: m ++ [b]).set 0 c = c :: m ++ [b] := rfl
theorem set_last (a b c : UInt8) (m : List UInt8) (h : m.length = 30) : (a :: m ++ [b]).set 31 c = a :: m ++ [c] := by
  rw [List.cons_append, List.set_cons_succ, List.set_append_right _ _ (by omega), h]
  rfl

theorem p30 : (256 : Nat) ^ 30 = 1766847064778384329583297500742918515827483896875618958121606201292619776 := by decide

theorem decL_ends (a b : UInt8) (m : List UInt8) (h : m.length = 30) : ∃ k, k < 1766847064778384329583297500742918515827483896875618958121606201292619776 ∧ ∀ x y : UInt8, decL (x :: m ++ [y]) = x.toNat + 256 * k + 452312848583266388373324160190187140051835877600158453279131187530910662656 * y.toNat := by
  refine ⟨decL m, ?_, fun x y => ?_⟩
  · have := decL_lt m
    rw [h, p30] at this
    exact this
  · rw [List.cons_append, decL_cons, decL_snoc, h, p30]
    omega

theorem ends_at0 (a b : UInt8) (m : List UInt8) (h : (a :: m ++ [b]).length = 32) : (a :: m ++ [b])[0] = a := rfl
theorem ends_at31 (a b : UInt8) (m : List UInt8) (h : m.length = 30) (h2 : 31 < (a :: m ++ [b]).length) : (a :: m ++ [b])[31] = b := by
  have : (a :: m ++ [b]) = (a :: m) ++ [b] := rfl
  have hk : (a :: m).length ≤ 31 := by simp [h]
  have e := List.getElem_append_right (bs := [b]) (h₂ := by rw [← this]; exact h2) hk
  rw [e]
  simp [h]

end Go.Proofs.Ytfnmnmjpcamkiaa

namespace Go.Proofs.Ytfnmnmjpcamkiaa
open Go.RowKit
set_option linter.unusedVariables false
set_option linter.unusedSimpArgs false

theorem clamp_bits (a b a' b' : UInt8) (m : List UInt8) (hm : m.length = 30) (ha : a'.toNat / 8 = a.toNat / 8) (hb : b'.toNat % 64 = b.toNat % 64) :
    clampN (decL (a' :: m ++ [b'])) = clampN (decL (a :: m ++ [b])) := by
  obtain ⟨k, hk, h⟩ := decL_ends a b m hm
  rw [h, h]
  unfold clampN
  omega

theorem top_bit (a b b' : UInt8) (m : List UInt8) (hm : m.length = 30) (hb : b'.toNat % 128 = b.toNat % 128) :
    decL (a :: m ++ [b']) % 57896044618658097711785492504343953926634992332820282019728792003956564819968 = decL (a :: m ++ [b]) % 57896044618658097711785492504343953926634992332820282019728792003956564819968 := by
  obtain ⟨k, hk, h⟩ := decL_ends a b m hm
  have := a.toNat_lt
  rw [h, h]
  omega

theorem clampN_twice (n : Nat) : clampN (clampN n) = clampN n := by unfold clampN; omega

theorem xor7 : ∀ (b : Fin 256) (n : Fin 8), bits .xor .u8 (b.val : Int) (n.val : Int) = ((b.val ^^^ n.val : Nat) : Int) ∧ (b.val ^^^ n.val) / 8 = b.val / 8 ∧ b.val ^^^ n.val < 256 := by decide +kernel
theorem xor192 : ∀ (b : Fin 256) (n : Fin 4), bits .xor .u8 (b.val : Int) ((n.val * 64 : Nat) : Int) = ((b.val ^^^ (n.val * 64) : Nat) : Int) ∧ (b.val ^^^ (n.val * 64)) % 64 = b.val % 64 ∧ b.val ^^^ (n.val * 64) < 256 := by decide +kernel
theorem xor128 : ∀ (b : Fin 256) (n : Fin 2), bits .xor .u8 (b.val : Int) ((n.val * 128 : Nat) : Int) = ((b.val ^^^ (n.val * 128) : Nat) : Int) ∧ (b.val ^^^ (n.val * 128)) % 128 = b.val % 128 ∧ b.val ^^^ (n.val * 128) < 256 := by decide +kernel
theorem and7 : ∀ n : Fin 256, bits .and .u8 (n.val : Int) 7 = ((n.val % 8 : Nat) : Int) := by decide +kernel
theorem and192 : ∀ n : Fin 256, bits .and .u8 (n.val : Int) 192 = ((n.val / 64 * 64 : Nat) : Int) := by decide +kernel

theorem byteOf_lt {v : Nat} (h : v < 256) : ∃ b : UInt8, b.toNat = v := ⟨UInt8.ofNat v, UInt8.toNat_ofNat_of_lt' h⟩

theorem turn7 (b : UInt8) (n : Int) (h0 : 0 ≤ n) (h1 : n ≤ 255) : ∃ c : UInt8, bits .xor .u8 (b.toNat : Int) (n % 8) = (c.toNat : Int) ∧ c.toNat / 8 = b.toNat / 8 := by
  obtain ⟨m, rfl⟩ := Int.eq_ofNat_of_zero_le h0
  obtain ⟨x1, x2, x3⟩ := xor7 ⟨b.toNat, b.toNat_lt⟩ ⟨m % 8, by omega⟩
  simp only [] at x1 x2 x3
  obtain ⟨c, hc⟩ := byteOf_lt x3
  exact ⟨c, by rw [hc]; exact x1, by rw [hc, x2]⟩

theorem turn192 (b : UInt8) (n : Int) (h0 : 0 ≤ n) (h1 : n ≤ 255) : ∃ c : UInt8, bits .xor .u8 (b.toNat : Int) (bits .and .u8 n 192) = (c.toNat : Int) ∧ c.toNat % 64 = b.toNat % 64 := by
  obtain ⟨m, rfl⟩ := Int.eq_ofNat_of_zero_le h0
  have e := and192 ⟨m, by omega⟩
  simp only [] at e
  rw [e]
  obtain ⟨x1, x2, x3⟩ := xor192 ⟨b.toNat, b.toNat_lt⟩ ⟨m / 64, by omega⟩
  simp only [] at x1 x2 x3
  obtain ⟨c, hc⟩ := byteOf_lt x3
  exact ⟨c, by rw [x1, hc], by rw [hc, x2]⟩

theorem turn128 (b : UInt8) (n : Int) (h0 : 0 ≤ n) (h1 : n ≤ 255) : ∃ c : UInt8, bits .xor .u8 (b.toNat : Int) (n * 128 % 256) = (c.toNat : Int) ∧ c.toNat % 128 = b.toNat % 128 := by
  obtain ⟨m, rfl⟩ := Int.eq_ofNat_of_zero_le h0
  have e : ((m : Nat) : Int) * 128 % 256 = ((m % 2 * 128 : Nat) : Int) := by omega
  rw [e]
  obtain ⟨x1, x2, x3⟩ := xor128 ⟨b.toNat, b.toNat_lt⟩ ⟨m % 2, by omega⟩
  simp only [] at x1 x2 x3
  obtain ⟨c, hc⟩ := byteOf_lt x3
  exact ⟨c, by rw [x1, hc], by rw [hc, x2]⟩

theorem size_toArray {l : List UInt8} (h : l.length = 32) : (⟨l.toArray⟩ : ByteArray).size = 32 := by
  simpa [ByteArray.size] using h

theorem len_ends (a b : UInt8) {m : List UInt8} (hm : m.length = 30) : (a :: m ++ [b]).length = 32 := by simp [hm]

/-- What Times says of turned bytes. -/
theorem timesR_bits (x0 x31 y0 y31 c0 c31 d31 : UInt8) (mx my : List UInt8) (hx : mx.length = 30) (hy : my.length = 30)
    (h0 : c0.toNat / 8 = x0.toNat / 8) (h1 : c31.toNat % 64 = x31.toNat % 64) (h2 : d31.toNat % 128 = y31.toNat % 128) :
    timesR ⟨(c0 :: mx ++ [c31]).toArray⟩ ⟨(y0 :: my ++ [d31]).toArray⟩ = timesR ⟨(x0 :: mx ++ [x31]).toArray⟩ ⟨(y0 :: my ++ [y31]).toArray⟩ := by
  unfold timesR
  rw [if_pos ⟨size_toArray (len_ends _ _ hx), size_toArray (len_ends _ _ hy)⟩, if_pos ⟨size_toArray (len_ends _ _ hx), size_toArray (len_ends _ _ hy)⟩]
  rw [timesB_eq, timesB_eq]
  have e1 := clamp_bits x0 x31 c0 c31 mx hx h0 h1
  have e2 := top_bit y0 y31 d31 my hy h2
  have e3 : ∀ l : List UInt8, dec ⟨l.toArray⟩ = (decL l : Int) := fun l => rfl
  have e5 : (decL (y0 :: my ++ [d31]) : Int) % 57896044618658097711785492504343953926634992332820282019728792003956564819968 = (decL (y0 :: my ++ [y31]) : Int) % 57896044618658097711785492504343953926634992332820282019728792003956564819968 := by omega
  rw [e3, e3, e5]
  simp only [] at e1 ⊢
  rw [e1]

theorem timesR_chk {x y : ByteArray} (hx : x.size = 32) (hy : y.size = 32) : (timesR x y).2 = 0 ∧ chkC (timesR x y).1 = 0 := by
  unfold timesR
  rw [if_pos ⟨hx, hy⟩]
  refine ⟨rfl, ?_⟩
  simp only []
  unfold timesB chkC
  have h0 := Int.emod_nonneg (timesE (canE (dec y % 57896044618658097711785492504343953926634992332820282019728792003956564819968)) (clampN (decL x.data.toList))).val (show PP ≠ 0 by decide)
  have h1 := Int.emod_lt_of_pos (timesE (canE (dec y % 57896044618658097711785492504343953926634992332820282019728792003956564819968)) (clampN (decL x.data.toList))).val (show 0 < PP by decide)
  rw [if_neg (by rw [enc_size]; decide), dec_enc _ h0 (Int.lt_trans h1 (by decide)), if_pos h1]

theorem clampR_one {x : ByteArray} (hx : x.size = 32) : (clampR x).2 = 0 ∧ clampR (clampR x).1 = clampR x := by
  unfold clampR
  rw [if_pos hx]
  refine ⟨rfl, ?_⟩
  simp only []
  rw [if_pos (enc_size _)]
  have hl := clampN_lt (decL x.data.toList)
  have hd := dec_enc ((clampN (decL x.data.toList) : Nat) : Int) (by omega) (by omega)
  unfold dec at hd
  have hd2 : decL (enc ((clampN (decL x.data.toList) : Nat) : Int)).data.toList = clampN (decL x.data.toList) := by omega
  rw [hd2, clampN_twice]

/-- string(b) of a row of 32. -/
theorem By.conv {w : World} {g : Nat} {l : List UInt8} (h : By w g l) (hl : l.length = 32) (c : Nat) {x : ByteArray} (hx : x.data.toList = l) : (convert 42 9 (.slice (some ⟨g, 0, none⟩) 32 c)).run Try.prog w = .ok (.string x) w := by
  have e : x = ⟨l.toArray⟩ := by subst hx; rfl
  subst e
  exact h.sl.conv (P := Try.prog) (n := 32) hl 42 5 9 Try.underlying42 Try.underlying5 Try.underlying9 c

theorem byteConv (w : World) (s : ByteArray) : (convert 9 42 (.string s)).run Try.prog w = .ok (.slice (some ⟨w.heap.size, 0, none⟩) s.size (grownCap w s.size 0 5)) (Lib.bytesWorld w 5 s) :=
  Lib.run_convert_string_bytes (P := Try.prog) w 9 42 5 s Try.underlying9 Try.underlying42 Try.underlying5

set_option maxRecDepth 100000 in
set_option maxHeartbeats 800000 in
theorem curveBits_walk (w : World) (a b : ByteArray) (n : Int) (hn : 0 ≤ n ∧ n ≤ 255) : Calls Try.prog 15 #[.string a, .string b, .int .u8 n] w fun r w' => r = .returned (.bool true) ∧ Touch Nothing w w' := by
  have hA := fun w => scalar_any w a
  have hB := fun w => scalar_any w b
  obtain ⟨x0, x31, mx, hmx, hlx⟩ := ends32 _ (padL_length a.data.toList)
  obtain ⟨y0, y31, my, hmy, hly⟩ := ends32 _ (padL_length b.data.toList)
  have ex : scalarS a = ⟨(x0 :: mx ++ [x31]).toArray⟩ := by unfold scalarS; rw [hlx]
  have ey : scalarS b = ⟨(y0 :: my ++ [y31]).toArray⟩ := by unfold scalarS; rw [hly]
  rw [ex] at hA
  rw [ey] at hB
  clear hlx hly ex ey
  obtain ⟨c0, hc0, k0⟩ := turn7 x0 n hn.1 hn.2
  obtain ⟨c31, hc31, k31⟩ := turn192 x31 n hn.1 hn.2
  obtain ⟨d31, hd31, kd⟩ := turn128 y31 n hn.1 hn.2
  have hbits := timesR_bits x0 x31 y0 y31 c0 c31 d31 mx my hmx hmy k0 k31 kd
  clear k0 k31 kd
  have lX : (x0 :: mx ++ [x31]).length = 32 := len_ends _ _ hmx
  have lX2 : (c0 :: mx ++ [c31]).length = 32 := len_ends _ _ hmx
  have lY : (y0 :: my ++ [y31]).length = 32 := len_ends _ _ hmy
  have lY2 : (y0 :: my ++ [d31]).length = 32 := len_ends _ _ hmy
  have aX := fun (h : 31 < (x0 :: mx ++ [x31]).length) => ends_at31 x0 x31 mx hmx h
  have aY := fun (h : 31 < (y0 :: my ++ [y31]).length) => ends_at31 y0 y31 my hmy h
  have aX0 : ∀ h : 0 < (x0 :: mx ++ [x31]).length, (x0 :: mx ++ [x31])[0] = x0 := fun _ => rfl
  have sX : ((x0 :: mx ++ [x31]).set 0 c0).set 31 c31 = c0 :: mx ++ [c31] := by rw [set_first, set_last _ _ _ _ hmx]
  have sY : (y0 :: my ++ [y31]).set 31 d31 = y0 :: my ++ [d31] := set_last _ _ _ _ hmy
  have aX31 : ∀ h : 31 < ((x0 :: mx ++ [x31]).set 0 c0).length, ((x0 :: mx ++ [x31]).set 0 c0)[31] = x31 := fun h => by rw [List.getElem_set_ne (by decide)]; exact aX _
  obtain ⟨X, hX⟩ : ∃ X, X = x0 :: mx ++ [x31] := ⟨_, rfl⟩
  obtain ⟨X2, hX2⟩ : ∃ X, X = c0 :: mx ++ [c31] := ⟨_, rfl⟩
  obtain ⟨Y, hY⟩ : ∃ X, X = y0 :: my ++ [y31] := ⟨_, rfl⟩
  obtain ⟨Y2, hY2⟩ : ∃ X, X = y0 :: my ++ [d31] := ⟨_, rfl⟩
  rw [← hX] at hA lX aX0 sX aX31 hbits
  rw [← hX2] at lX2 sX hbits
  rw [← hY] at hB lY sY aY hbits
  rw [← hY2] at lY2 sY hbits
  clear hX hX2 hY hY2 aX
  have zX := size_toArray lX
  have zY := size_toArray lY
  have hT := fun w => Times_lay w ⟨X.toArray⟩ ⟨Y.toArray⟩
  have hT2 := fun w => Times_lay w ⟨X2.toArray⟩ ⟨Y2.toArray⟩
  rw [hbits] at hT2
  obtain ⟨tc, tk⟩ := timesR_chk zX zY
  have hCk := fun w => Check_any w (timesR ⟨X.toArray⟩ ⟨Y.toArray⟩).1
  rw [tk] at hCk
  rw [tc] at hT hT2
  obtain ⟨t, ht⟩ : ∃ t, t = (timesR ⟨X.toArray⟩ ⟨Y.toArray⟩).1 := ⟨_, rfl⟩
  rw [← ht] at hT hT2 hCk
  clear tc tk ht
  have zX2 := size_toArray lX2
  obtain ⟨q1, q2⟩ := clampR_one zX2
  have hP := fun w => Clamp_lay w ⟨X2.toArray⟩
  have hP2 := fun w => Clamp_lay w (clampR ⟨X2.toArray⟩).1
  rw [q2] at hP2
  rw [q1] at hP hP2
  obtain ⟨c, hc⟩ : ∃ c, c = (clampR ⟨X2.toArray⟩).1 := ⟨_, rfl⟩
  rw [← hc] at hP hP2
  clear q1 q2 hc
  obtain ⟨sx, ex⟩ : ∃ s : ByteArray, s = ⟨X.toArray⟩ := ⟨_, rfl⟩
  obtain ⟨sy, ey⟩ : ∃ s : ByteArray, s = ⟨Y.toArray⟩ := ⟨_, rfl⟩
  obtain ⟨sx2, ex2⟩ : ∃ s : ByteArray, s = ⟨X2.toArray⟩ := ⟨_, rfl⟩
  obtain ⟨sy2, ey2⟩ : ∃ s : ByteArray, s = ⟨Y2.toArray⟩ := ⟨_, rfl⟩
  rw [← ex] at hA hT zX
  rw [← ey] at hB hT zY
  rw [← ex2] at hT2 hP zX2
  rw [← ey2] at hT2
  have dx : sx.data.toList = X := by rw [ex]
  have dy : sy.data.toList = Y := by rw [ey]
  have dx2 : sx2.data.toList = X2 := by rw [ex2]
  have dy2 : sy2.data.toList = Y2 := by rw [ey2]
  clear ex ey ex2 ey2 hbits
  have hbits2 := tl_true (show t = t from rfl)
  have hW := Lib.hid (fun w => curveWorks_any w)
  have kx := byteConv
  replace hA := Lib.hid hA
  replace hB := Lib.hid hB
  replace hT := Lib.hid hT
  replace hT2 := Lib.hid hT2
  replace hCk := Lib.hid hCk
  replace hP := Lib.hid hP
  replace hP2 := Lib.hid hP2
  have lX0 : 0 < X.length := by omega
  have lX1 : 31 < (X.set 0 c0).length := by rw [List.length_set]; omega
  have lY1 : 31 < Y.length := by omega
  have cellX0 : Hid (∀ (W : World) (g : Nat), By W g X → W.cell? ⟨g, 0, none⟩ = some (.int .u8 (x0.toNat : Int)) ∧ W.frozen? ⟨g, 0, none⟩ = false) := Lib.hid fun W g h => ⟨by rw [h.cell 0 lX0, aX0]; rfl, h.frz 0 lX0⟩
  have cellX1 : Hid (∀ (W : World) (g : Nat), By W g (X.set 0 c0) → W.cell? ⟨g, 31, none⟩ = some (.int .u8 (x31.toNat : Int)) ∧ W.frozen? ⟨g, 31, none⟩ = false) := Lib.hid fun W g h => ⟨by rw [h.cell 31 lX1, aX31]; rfl, h.frz 31 lX1⟩
  have cellY1 : Hid (∀ (W : World) (g : Nat), By W g Y → W.cell? ⟨g, 31, none⟩ = some (.int .u8 (y31.toNat : Int)) ∧ W.frozen? ⟨g, 31, none⟩ = false) := Lib.hid fun W g h => ⟨by rw [h.cell 31 lY1, aY]; rfl, h.frz 31 lY1⟩
  clear aX31 aX0 aY lX0 lX1 lY1 hmx hmy
  replace sX := Lib.hid sX
  replace sY := Lib.hid sY
  replace lX := Lib.hid lX
  replace lY := Lib.hid lY
  replace lX2 := Lib.hid lX2
  replace lY2 := Lib.hid lY2
  replace dx := Lib.hid dx
  replace dy := Lib.hid dy
  replace dx2 := Lib.hid dx2
  replace dy2 := Lib.hid dy2
  replace hc0 := Lib.hid hc0
  replace hc31 := Lib.hid hc31
  replace hd31 := Lib.hid hd31
  go_enter Try.func15, Try.ntmps15
  go_wp2_with (first | (go_at_call 40; refine (hW.out _).mono ?_; rintro r wW ⟨rfl, tW⟩) | (go_at_call_of 48 (Value.string a); refine (hA.out _).mono ?_; rintro r wA ⟨rfl, tA⟩) | (go_at_call_of 48 (Value.string b); refine (hB.out _).mono ?_; rintro r wB ⟨rfl, tB⟩))
  have bX := ((by_new wA sx).keep tB (fun q => q)).keep (touch_bytesWorld wB sy) (fun q => q)
  have bY := by_new wB sy
  rw [dx.out] at bX
  rw [dy.out] at bY
  obtain ⟨cX, ecX⟩ : ∃ c, c = grownCap wA 32 0 5 := ⟨_, rfl⟩
  obtain ⟨cY, ecY⟩ : ∃ c, c = grownCap wB 32 0 5 := ⟨_, rfl⟩
  have v1 := bX.conv lX.out cX dx.out
  have v2 := bY.conv lY.out cY dy.out
  rw [← ecX, ← ecY]
  clear ecX ecY
  have g1 := lt_of_heap (Lib.bytesWorld_at_new wA 5 sx)
  have g2 := tB.size
  have tt := (((tW.trans' tA).trans' (touch_bytesWorld wA sx)).trans' tB).trans' (touch_bytesWorld wB sy)
  replace bX := Lib.hid bX
  replace bY := Lib.hid bY
  obtain ⟨gX, egX⟩ : ∃ gX, gX = wA.heap.size := ⟨_, rfl⟩
  obtain ⟨gY, egY⟩ : ∃ gY, gY = wB.heap.size := ⟨_, rfl⟩
  have hne : ¬ gX = gY := by omega
  have hw1 : w.heap.size ≤ gX := by have := (tW.trans' tA).size; omega
  have hw2 : w.heap.size ≤ gY := by omega
  rw [← egX] at v1 bX ⊢
  rw [← egY] at v2 bY ⊢
  clear g1 g2 egX egY tW tA tB
  obtain ⟨wC, eC⟩ : ∃ wC, wC = Lib.bytesWorld wB 5 sy := ⟨_, rfl⟩
  rw [← eC] at v1 v2 bX bY tt ⊢
  clear eC kx
  replace tt := Lib.hid tt
  go_wp2_with (first | (rewrite [v1]) | (rewrite [v2]) | (go_at_call_of 36 (Value.string sx); refine (hT.out _).mono ?_; rintro r wT ⟨rfl, tT⟩; clear v1 v2; have uX := bX.out.keep tT (fun q => q); have uY := bY.out.keep tT (fun q => q); have tt2 := tt.out.trans' tT; obtain ⟨l0, f0⟩ := cellX0.out _ _ uX; have uX1 := uX.set 0 c0 (congrArg (Value.int .u8) hc0.out); obtain ⟨l1, f1⟩ := cellX1.out _ _ uX1; have uX2 := uX1.set 31 c31 (congrArg (Value.int .u8) hc31.out); rw [sX.out] at uX2; have uY1 := (uY.keep (touch_byte wT gX 0 (.int .u8 (bits .xor .u8 (x0.toNat : Int) (n % 8)))) (fun q => hne q.symm)).keep (touch_byte _ gX 31 (.int .u8 (bits .xor .u8 (x31.toNat : Int) (bits .and .u8 n 192)))) (fun q => hne q.symm); obtain ⟨l2, f2⟩ := cellY1.out _ _ uY1; have uY2 := uY1.set 31 d31 (congrArg (Value.int .u8) hd31.out); rw [sY.out] at uY2; have uX3 := uX2.keep (touch_byte _ gY 31 (.int .u8 (bits .xor .u8 (y31.toNat : Int) (n * 128 % 256)))) hne; have v3 := uX3.conv lX2.out cX dx2.out; have v4 := uY2.conv lY2.out cY dy2.out; have tt3 := ((tt2.trans (touch_byte wT gX 0 (.int .u8 (bits .xor .u8 (x0.toNat : Int) (n % 8)))) (fun i hi q => by omega)).trans (touch_byte _ gX 31 (.int .u8 (bits .xor .u8 (x31.toNat : Int) (bits .and .u8 n 192)))) (fun i hi q => by omega)).trans (touch_byte _ gY 31 (.int .u8 (bits .xor .u8 (y31.toNat : Int) (n * 128 % 256)))) (fun i hi q => by omega); clear uX uX1 uX2 uY uY1 uY2 tt2 tt; replace uX3 := Lib.hid uX3; replace tt3 := Lib.hid tt3))
  go_wp2_with (first | (rewrite [v3]) | (rewrite [v4]) | (go_at_call_of 36 (Value.string sx2); refine (hT2.out _).mono ?_; rintro r wU ⟨rfl, tU⟩; have v5 := (uX3.out.keep tU (fun q => q)).conv lX2.out cX dx2.out) | (rewrite [v5]))
  go_wp2_with (first | (go_at_call_of 38 (Value.string sx2); refine (hP.out _).mono ?_; rintro r wV ⟨rfl, tV⟩) | (go_at_call_of 38 (Value.string c); refine (hP2.out _).mono ?_; rintro r wZ ⟨rfl, tZ⟩) | (go_at_call 24; refine (hCk.out _).mono ?_; rintro r wK ⟨rfl, tK⟩))
  go_ret
  exact ⟨rfl, (((tt3.out.trans' tU).trans' tV).trans' tZ).trans' tK⟩

theorem CurveBits_walk (w : World) (x : ByteArray) (hx : x.size ≤ 140737488351232) (y : ByteArray) (hy : y.size ≤ 140737488351232) (n : Int) (hn : 0 ≤ n ∧ n ≤ 255) :
    Calls Try.prog 15 #[.string x, .string y, .int .u8 n] w fun r w' => r = .returned (.bool true) ∧ Below w.heap.size w w' :=
  (curveBits_walk w x y n hn).mono fun r w' q => ⟨q.1, q.2.toBelow0 fun _ _ q => q⟩

end Go.Proofs.Ytfnmnmjpcamkiaa
