/-
  Layer 10's reader in memory: rest, long, look, Take, Next, Waits, Fork of package frame do what the model says.
-/
import Derived.Test.YtoegkcjclgmnbaaProg
import Derived.Test.YtoegkcjclgmnbaaMem
import Derived.Test.YtoegkcjclgmnbaaModel
import Derived.Test.YtoegkcjclgmnbaaBld
import Derived.Outline
import Derived.Lib.Hide
namespace Go.Proofs.Ytoegkcjclgmnbaa
open Go.RowKit
set_option linter.unusedVariables false
set_option linter.unusedSimpArgs false

/-- A reader in block g. -/
structure RdOk (w : World) (g : Nat) (sv : Value) (l : List UInt8) (at_ : Nat) (br : Bool) : Prop where
  blk : w.heap[g]? = some (.cells #[sv, .int .i64 (at_ : Int), .bool br] 67 (0, 0))
  own : w.ownsRow 0 5 1 sv l.length (l.map byteV)
  ne : sv.ownBlock ≠ some g
  le : at_ ≤ l.length
  len : l.length ≤ 1052672

def RestPost (w : World) (sv : Value) (n : Nat) (bs : List UInt8) (e : Ending) (w' : World) : Prop :=
  (∃ nq, w' = w.drewN nq) ∧ ∃ a c, e = .returned (.slice a n c) ∧ SlB w a c bs ∧ (a = none → sv = .slice none 0 0)

theorem rest_nil (w : World) (g : Nat) (h0 : w.cell? ⟨g, 0, none⟩ = some (.slice none 0 0)) (h1 : w.cell? ⟨g, 1, none⟩ = some (.int .i64 0)) :
    Calls Try.prog 29 #[.pointer (some ⟨g, 0, none⟩)] w fun e w' => e = .returned (.slice none 0 0) ∧ ∃ nq, w' = w.drewN nq := by
  go_enter Try.func29, Try.ntmps29
  go_wp2
  go_quiet (fail)
  go_wp2
  go_ret
  exact ⟨rfl, _, rfl⟩

theorem rest_mid (w : World) (g h n c at_ : Nat) (h0 : w.cell? ⟨g, 0, none⟩ = some (.slice (some ⟨h, 0, none⟩) n c)) (h1 : w.cell? ⟨g, 1, none⟩ = some (.int .i64 (at_ : Int)))
    (ha : at_ ≤ n) (hc : n ≤ c) (hlt : at_ < c) (hm : c ≤ 9223372036854775807) :
    Calls Try.prog 29 #[.pointer (some ⟨g, 0, none⟩)] w fun e w' => e = .returned (.slice (some ⟨h, at_, none⟩) (n - at_) (c - at_)) ∧ ∃ nq, w' = w.drewN nq := by
  go_enter Try.func29, Try.ntmps29
  go_wp2
  go_quiet (fail)
  go_wp2
  go_ret
  exact ⟨rfl, _, rfl⟩

theorem rest_end (w : World) (g h c : Nat) (h0 : w.cell? ⟨g, 0, none⟩ = some (.slice (some ⟨h, 0, none⟩) c c)) (h1 : w.cell? ⟨g, 1, none⟩ = some (.int .i64 (c : Int)))
    (hm : c ≤ 9223372036854775807) :
    Calls Try.prog 29 #[.pointer (some ⟨g, 0, none⟩)] w fun e w' => e = .returned (.slice (some ⟨h, 0, none⟩) 0 0) ∧ ∃ nq, w' = w.drewN nq := by
  go_enter Try.func29, Try.ntmps29
  go_wp2
  go_quiet (fail)
  go_wp2
  go_ret
  exact ⟨rfl, _, rfl⟩

theorem RdOk.c0 {w g sv l at_ br} (h : RdOk w g sv l at_ br) : w.cell? ⟨g, 0, none⟩ = some sv := (cell_blk h.blk 0).trans rfl
theorem RdOk.c1 {w g sv l at_ br} (h : RdOk w g sv l at_ br) : w.cell? ⟨g, 1, none⟩ = some (.int .i64 (at_ : Int)) := (cell_blk h.blk 1).trans rfl
theorem RdOk.c2 {w g sv l at_ br} (h : RdOk w g sv l at_ br) : w.cell? ⟨g, 2, none⟩ = some (.bool br) := (cell_blk h.blk 2).trans rfl

theorem rest_any {w : World} {g : Nat} {sv : Value} {l : List UInt8} {at_ : Nat} {br : Bool} (h : RdOk w g sv l at_ br) {n : Nat} (Hn : Hid (n = l.length - at_)) :
    Calls Try.prog 29 #[.pointer (some ⟨g, 0, none⟩)] w (RestPost w sv n (l.drop at_)) := by
  rw [Hn.out]
  have h0 := h.c0
  have h1 := h.c1
  have hle := h.le
  rcases h.own.2 with ⟨hv, hn⟩ | ⟨b, cap, cur, hv, _, hb, hnc, hcm, hcs, htk⟩
  · obtain rfl : at_ = 0 := by omega
    have hl : l = [] := List.eq_nil_of_length_eq_zero hn
    subst hl
    subst hv
    exact (rest_nil w g h0 h1).mono fun e w' ⟨he, hw⟩ => ⟨hw, none, 0, by simpa using he, by simp [SlB], fun _ => rfl⟩
  · subst hv
    simp only [maxLen] at hcm
    by_cases hlt : at_ < cap
    · refine (rest_mid w g b l.length cap at_ h0 h1 hle hnc hlt hcm).mono fun e w' ⟨he, hw⟩ => ⟨hw, _, _, he, ?_, fun e => by cases e⟩
      refine ⟨by simp; omega, fun i hi => ⟨b, at_, rfl, ?_⟩⟩
      have hi' : at_ + i < l.length := by simp at hi; omega
      have := h.own.cells (g := b) rfl (at_ + i) (byteV (l.drop at_)[i]) (by simp [hi'])
      rw [← this, Addr.add_lit]
      simp
    · have hc : at_ = cap := by omega
      have hn : l.length = cap := by omega
      subst hc
      rw [hn] at h0
      exact (rest_end w g b at_ h0 h1 hcm).mono fun e w' ⟨he, hw⟩ => ⟨hw, some ⟨b, 0, none⟩, 0, by simpa [hn] using he, by simp [SlB, ← hn], fun e => by cases e⟩

def LongPost (w : World) (bs : List UInt8) (e : Ending) (w' : World) : Prop :=
  (∃ nq, w' = w.drewN nq) ∧ e = .returned (.tuple #[.int .i64 ((long bs).getD 0 : Nat), .bool (long bs).isSome])

theorem long_any {w : World} {g : Nat} {sv : Value} {l : List UInt8} {at_ : Nat} {br : Bool} (h : RdOk w g sv l at_ br) :
    Calls Try.prog 31 #[.pointer (some ⟨g, 0, none⟩)] w (LongPost w (l.drop at_)) := by
  obtain ⟨n, hn⟩ : ∃ n, n = l.length - at_ := ⟨_, rfl⟩
  have hn1 : n ≤ 1052672 := by have := h.len; omega
  have Hn := Lib.hid hn
  clear hn
  have hr := rest_any h Hn
  have hlen := Lib.hid (show (l.drop at_).length = n by rw [Hn.out]; simp)
  generalize l.drop at_ = bs at *
  clear h Hn
  by_cases h4 : n < 4
  · have hln := Lib.hid (long_none (l := bs) (by rw [hlen.out]; exact h4))
    go_enter Try.func31, Try.ntmps31
    go_wp2_with (go_at_call 29; refine hr.mono ?_; rintro e w' ⟨⟨nq, rfl⟩, a, c, rfl, hs, hq⟩)
    go_ret2
    refine ⟨⟨_, rfl⟩, ?_⟩
    rw [hln.out]
    rfl
  · obtain ⟨b0, b1, b2, b3, r, hbs⟩ := four (l := bs) (by rw [hlen.out]; omega)
    have hln := Lib.hid (show long bs = some (num4 b0 b1 b2 b3) by rw [hbs]; rfl)
    have hbs := Lib.hid hbs
    have i0 : 0 < n := by omega
    have i1 : (1 : Int) < (n : Int) := by omega
    have i2 : (2 : Int) < (n : Int) := by omega
    have i3 : (3 : Int) < (n : Int) := by omega
    have h4' : 4 ≤ n := by omega
    clear h4
    go_enter Try.func31, Try.ntmps31
    go_wp2_with (go_at_call 29; refine hr.mono ?_; rintro e w' ⟨⟨nq, rfl⟩, a, c, rfl, hs, hq⟩)
    obtain ⟨g0, o0, ha, hc0⟩ := hs.2 0 (by rw [hlen.out]; omega)
    obtain ⟨g1, o1, ha1, hc1⟩ := hs.2 1 (by rw [hlen.out]; omega)
    obtain ⟨g2, o2, ha2, hc2⟩ := hs.2 2 (by rw [hlen.out]; omega)
    obtain ⟨g3, o3, ha3, hc3⟩ := hs.2 3 (by rw [hlen.out]; omega)
    subst ha
    obtain ⟨rfl, rfl⟩ : g0 = g1 ∧ o0 = o1 := by simpa using ha1
    obtain ⟨rfl, rfl⟩ : g0 = g2 ∧ o0 = o2 := by simpa using ha2
    obtain ⟨rfl, rfl⟩ : g0 = g3 ∧ o0 = o3 := by simpa using ha3
    clear ha1 ha2 ha3 hs
    simp only [byteV, hbs.out, List.getElem_cons_zero, List.getElem_cons_succ, Nat.add_zero] at hc0 hc1 hc2 hc3
    have hb0 := b0.toNat_lt; have hb1 := b1.toNat_lt; have hb2 := b2.toNat_lt; have hb3 := b3.toNat_lt
    go_quiet (fail)
    go_wp2
    go_ret2
    refine ⟨⟨_, World.drewN_drewN _ _ _⟩, ?_⟩
    rw [hln.out, or_four]
    rfl

theorem long_no {w : World} {g : Nat} {sv : Value} {l : List UInt8} {at_ : Nat} {br : Bool} (h : RdOk w g sv l at_ br) (hl : long (l.drop at_) = none) :
    Calls Try.prog 31 #[.pointer (some ⟨g, 0, none⟩)] w fun e w' => e = .returned (.tuple #[.int .i64 0, .bool false]) ∧ ∃ nq, w' = w.drewN nq :=
  (long_any h).mono fun e w' ⟨hw, he⟩ => ⟨by rw [he, hl]; rfl, hw⟩

theorem long_yes {w : World} {g : Nat} {sv : Value} {l : List UInt8} {at_ : Nat} {br : Bool} (h : RdOk w g sv l at_ br) {n : Nat} (hl : long (l.drop at_) = some n) :
    Calls Try.prog 31 #[.pointer (some ⟨g, 0, none⟩)] w fun e w' => e = .returned (.tuple #[.int .i64 (n : Int), .bool true]) ∧ ∃ nq, w' = w.drewN nq :=
  (long_any h).mono fun e w' ⟨hw, he⟩ => ⟨by rw [he, hl]; rfl, hw⟩

/-- A reader as the model has it: sv is its slice. -/
def Rd (w : World) (g : Nat) (sv : Value) (s : St) : Prop := ∃ l at_, RdOk w g sv l at_ s.broken ∧ s.left = l.drop at_

theorem RdOk.touch {F : Nat → Prop} {w w' : World} {g sv l at_ br} (h : RdOk w g sv l at_ br) (ht : Touch F w w') (hg : ¬ F g) (hs : ∀ k, sv.ownBlock = some k → ¬ F k) : RdOk w' g sv l at_ br :=
  ⟨ht.heap h.blk hg, ht.owns h.own hs, h.ne, h.le, h.len⟩

theorem Rd.touch {F : Nat → Prop} {w w' : World} {g : Nat} {sv : Value} {s : St} (h : Rd w g sv s) (ht : Touch F w w') (hg : ¬ F g) (hs : ∀ k, sv.ownBlock = some k → ¬ F k) : Rd w' g sv s := by
  obtain ⟨l, at_, h1, h2⟩ := h
  exact ⟨l, at_, h1.touch ht hg hs, h2⟩

/-- A call that may have turned the reader's block, and its row; the reader now holds s. -/
def RdPost (w : World) (g : Nat) (sv : Value) (s : St) (w' : World) : Prop :=
  ∃ sv', Rd w' g sv' s ∧ Touch (fun k => k = g ∨ sv.ownBlock = some k) w w' ∧ ∀ k, sv'.ownBlock = some k → sv.ownBlock = some k ∨ w.heap.size ≤ k

theorem RdPost.after {w w1 w' : World} {g : Nat} {sv : Value} {s : St} (ht : Touch (fun k => k = g ∨ sv.ownBlock = some k) w w1) (h : RdPost w1 g sv s w') : RdPost w g sv s w' := by
  obtain ⟨sv', h1, h2, h3⟩ := h
  exact ⟨sv', h1, ht.trans' h2, fun k hk => (h3 k hk).imp id fun q => Nat.le_trans ht.size q⟩

theorem long_lt {l : List UInt8} {n : Nat} (h : long l = some n) : n < 4294967296 := by
  unfold long at h
  split at h
  · cases h; exact num4_lt _ _ _ _
  · cases h

theorem look_any {w : World} {g : Nat} {sv : Value} {s : St} (h : Rd w g sv s) :
    Calls Try.prog 30 #[.pointer (some ⟨g, 0, none⟩)] w fun e w' => e = .returned (.tuple #[]) ∧ RdPost w g sv (look s) w' := by
  obtain ⟨l, at_, h, hl⟩ := h
  have stay : ∀ nq, look s = s → RdPost w g sv (look s) (w.drewN nq) := fun nq hk =>
    ⟨sv, by rw [hk]; exact ⟨l, at_, h.touch (F := Nothing) ((Touch.refl _ _).drewN nq) (fun q => q) (fun _ _ q => q), hl⟩, (Touch.refl _ _).drewN nq, fun k hk => .inl hk⟩
  cases hlo : long (l.drop at_) with
  | none =>
    have hk : look s = s := by unfold look; rw [hl, hlo]
    have hL := long_no h hlo
    have stay := Lib.hid (fun nq => stay nq hk)
    clear hlo hk hl
    go_enter Try.func30, Try.ntmps30
    go_wp2_with (go_at_call 31; refine hL.mono ?_; rintro e w' ⟨rfl, nq, rfl⟩)
    go_end0
    exact ⟨rfl, stay.out _⟩
  | some n =>
    have hL := long_yes h hlo
    have hlt := long_lt hlo
    by_cases hn : 4096 < n
    · have hk : look s = ⟨[], true⟩ := by unfold look; rw [hl, hlo]; exact if_pos hn
      have c0 := h.c0
      have c1 := h.c1
      have c2 := h.c2
      have f0 := frz_blk h.blk 0
      have f1 := frz_blk h.blk 1
      have f2 := frz_blk h.blk 2
      go_enter Try.func30, Try.ntmps30
      go_wp2_with (go_at_call 31; refine hL.mono ?_; rintro e w' ⟨rfl, nq, rfl⟩)
      go_end0
      refine ⟨rfl, .slice none 0 0, ⟨[], 0, ⟨?_, World.ownsRow_nil _ _ _ _, by simp [Value.ownBlock], Nat.le_refl _, by simp⟩, by rw [hk]; rfl⟩, ?_, fun k hk => by simp [Value.ownBlock] at hk⟩
      · rw [hk]
        exact (heap_setCell_same (heap_setCell_same (heap_setCell_same (w := w.drewN nq) h.blk _ _) _ _) _ _).trans rfl
      · exact ((((Touch.refl _ _).drewN nq).setCell (p := ⟨g, 0, none⟩) (fun _ => .inl rfl) _).setCell (p := ⟨g, 1, none⟩) (fun _ => .inl rfl) _).setCell (p := ⟨g, 2, none⟩) (fun _ => .inl rfl) _
    · have hk : look s = s := by unfold look; rw [hl, hlo]; exact if_neg hn
      have stay := Lib.hid (fun nq => stay nq hk)
      have hn' : n ≤ 4096 := by omega
      clear hlo hk hl
      go_enter Try.func30, Try.ntmps30
      go_wp2_with (go_at_call 31; refine hL.mono ?_; rintro e w' ⟨rfl, nq, rfl⟩)
      go_end0
      exact ⟨rfl, stay.out _⟩

/-- Waits. -/
theorem waits_any {w : World} {g : Nat} {sv : Value} {s : St} (h : Rd w g sv s) :
    Calls Try.prog 15 #[.pointer (some ⟨g, 0, none⟩)] w fun e w' => e = .returned (.int .i64 (s.left.length : Int)) ∧ ∃ nq, w' = w.drewN nq := by
  obtain ⟨l, at_, h, hl⟩ := h
  obtain ⟨n, hn⟩ : ∃ n, n = l.length - at_ := ⟨_, rfl⟩
  have hlen : s.left.length = n := by rw [hl, hn]; simp
  rw [hlen]
  have Hn := Lib.hid hn
  clear hn hlen hl
  have hr := rest_any h Hn
  go_enter Try.func15, Try.ntmps15
  go_wp2_with (go_at_call 29; refine hr.mono ?_; rintro e w' ⟨⟨nq, rfl⟩, a, c, rfl, hs, hq⟩)
  go_ret
  exact ⟨rfl, _, rfl⟩

/-- New. -/
theorem new_any (w : World) :
    Calls Try.prog 12 #[] w fun e w' => e = .returned (.pointer (some ⟨w.heap.size, 0, none⟩)) ∧ w' = w.alloc (.cells #[.slice none 0 0, .int .i64 0, .bool false] 67) := by
  go_enter Try.func12, Try.ntmps12
  go_wp2
  go_ret
  exact ⟨rfl, rfl⟩

theorem new_rd (w : World) : Rd (w.alloc (.cells #[.slice none 0 0, .int .i64 0, .bool false] 67)) w.heap.size (.slice none 0 0) ⟨[], false⟩ :=
  ⟨[], 0, ⟨heap_alloc_new w _, World.ownsRow_nil _ _ _ _, by simp [Value.ownBlock], Nat.le_refl _, by simp⟩, rfl⟩

def NextPost (w : World) (g : Nat) (sv : Value) (s : St) (e : Ending) (w' : World) : Prop :=
  e = .returned (.tuple #[.string ⟨(next s).1.1.toArray⟩, .bool (next s).1.2]) ∧ RdPost w g sv (next s).2 w'

theorem RdOk.drewN {w : World} {g sv l at_ br} (h : RdOk w g sv l at_ br) (n : Nat) : RdOk (w.drewN n) g sv l at_ br :=
  h.touch (F := Nothing) ((Touch.refl _ _).drewN n) (fun q => q) (fun _ _ q => q)

set_option maxRecDepth 100000 in
theorem next_any {w : World} {g : Nat} {sv : Value} {s : St} (h : Rd w g sv s) :
    Calls Try.prog 16 #[.pointer (some ⟨g, 0, none⟩)] w (NextPost w g sv s) := by
  have h' := h
  obtain ⟨l, at_, h, hl⟩ := h
  obtain ⟨n, hn⟩ : ∃ n, n = l.length - at_ := ⟨_, rfl⟩
  have hlen : s.left.length = n := by rw [hl, hn]; simp
  have hn1 : n ≤ 1052672 := by have := h.len; omega
  have Hn := Lib.hid hn
  clear hn
  have hr := fun nq => rest_any (h.drewN nq) Hn
  have stay : ∀ nq, RdPost w g sv s (w.drewN nq) := fun nq =>
    ⟨sv, h'.touch (F := Nothing) ((Touch.refl _ _).drewN nq) (fun q => q) (fun _ _ q => q), (Touch.refl _ _).drewN nq, fun k hk => .inl hk⟩
  cases hlo : long (l.drop at_) with
  | none =>
    have hk : next s = (([], false), s) := by unfold next; rw [hl, hlo]
    have hL := long_no h hlo
    have fin := Lib.hid (show ∀ nq, NextPost w g sv s (.returned (.tuple #[.string ⟨#[]⟩, .bool false])) (w.drewN nq) from fun nq => ⟨by rw [hk], by rw [hk]; exact stay nq⟩)
    clear hlo hk hl stay h' hlen
    go_enter Try.func16, Try.ntmps16
    go_wp2_with (first | (go_at_call 31; refine hL.mono ?_; rintro e w' ⟨rfl, nq, rfl⟩) | (go_at_call 29; refine (hr _).mono ?_; rintro e w' ⟨⟨nq2, rfl⟩, a, c, rfl, hs, hq⟩))
    go_ret2
    exact fin.out _
  | some m =>
    have hlt := long_lt hlo
    have hL := long_yes h hlo
    by_cases hm : (n : Int) - 4 < m
    · have hk : next s = (([], false), s) := by unfold next; rw [hl, hlo]; rw [hl] at hlen; dsimp only; rw [hlen, if_pos hm]
      have fin := Lib.hid (show ∀ nq, NextPost w g sv s (.returned (.tuple #[.string ⟨#[]⟩, .bool false])) (w.drewN nq) from fun nq => ⟨by rw [hk], by rw [hk]; exact stay nq⟩)
      clear hlo hk hl stay h' hlen
      go_enter Try.func16, Try.ntmps16
      go_wp2_with (first | (go_at_call 31; refine hL.mono ?_; rintro e w' ⟨rfl, nq, rfl⟩) | (go_at_call 29; refine (hr _).mono ?_; rintro e w' ⟨⟨nq2, rfl⟩, a, c, rfl, hs, hq⟩))
      go_ret2
      exact fin.out _
    · have hk : next s = (((s.left.drop 4).take m, true), look ⟨s.left.drop (4 + m), s.broken⟩) := by unfold next; rw [hl, hlo]; rw [hl] at hlen; dsimp only; rw [hlen, if_neg hm]
      replace hk := Lib.hid hk
      have c1 := h.c1
      have f1 := frz_blk h.blk 1
      have hbl := Lib.hid (show (l.drop at_).length = n by rw [Hn.out]; simp)
      have hm' : 4 + m ≤ n := by omega
      have ha := h.le
      have hlc : at_ + (4 + m) ≤ l.length := by have := Hn.out; omega
      have hll := h.len
      replace hl := Lib.hid hl
      obtain ⟨t, ht⟩ : ∃ t : ByteArray, t = ⟨(((l.drop at_).drop 4).take m).toArray⟩ := ⟨_, rfl⟩
      replace ht := Lib.hid ht
      have hcv : ∀ nq g0 o0 c, SlB (w.drewN nq) (some ⟨g0, o0, none⟩) c (l.drop at_) → n ≤ c → ∀ k,
          (convert 55 9 (.slice (if c = 4 then some ⟨g0, o0, none⟩ else some ⟨g0, o0 + 4, none⟩) m (c - 4))).run Try.prog (w.drewN k) = .ok (.string t) (w.drewN k) := by
        intro nq g0 o0 c hs hnc k
        rw [ht.out]
        have hs := SlB.keep (F := Nothing) (w := w.drewN nq) (w' := w.drewN k) hs ⟨rfl, rfl, rfl, Nat.le_refl _, fun _ _ _ => rfl⟩ (fun _ _ q => q)
        split
        · obtain rfl : m = 0 := by omega
          exact (SlB.nil _ _ 0).conv rfl 55 5 9 Try.underlying55 Try.underlying5 Try.underlying9 _
        · exact (hs.mid 4 m (by rw [hbl.out]; omega)).conv (by simp; omega) 55 5 9 Try.underlying55 Try.underlying5 Try.underlying9 _
      replace hcv := Lib.hid hcv
      have hrd : ∀ k, Rd ((w.drewN k).setCell ⟨g, 1, none⟩ (.int .i64 ((at_ : Int) + (4 + (m : Int))))) g sv ⟨s.left.drop (4 + m), s.broken⟩ := by
        intro k
        refine ⟨l, at_ + (4 + m), ⟨?_, ?_, h.ne, hlc, hll⟩, by rw [hl.out]; simp [Nat.add_assoc]⟩
        · exact (heap_setCell_same (w := w.drewN k) h.blk _ _).trans (by simp)
        · exact (((Touch.refl (fun j => j = g) _).drewN k).setCell (p := ⟨g, 1, none⟩) (fun _ => rfl) _).owns h.own fun j hj e => h.ne (by rw [hj, e])
      replace hrd := Lib.hid hrd
      have fin : ∀ k w', RdPost ((w.drewN k).setCell ⟨g, 1, none⟩ (.int .i64 ((at_ : Int) + (4 + (m : Int))))) g sv (look ⟨s.left.drop (4 + m), s.broken⟩) w' →
          NextPost w g sv s (.returned (.tuple #[.string t, .bool true])) w' := by
        intro k w' hp
        refine ⟨by rw [hk.out, ht.out, hl.out], ?_⟩
        rw [hk.out]
        exact RdPost.after (((Touch.refl _ _).drewN k).setCell (p := ⟨g, 1, none⟩) (fun _ => .inl rfl) _) hp
      replace fin := Lib.hid fin
      clear stay hlo hlen hm
      go_enter Try.func16, Try.ntmps16
      go_wp2_with (first | (go_at_call 31; refine hL.mono ?_; rintro e w' ⟨rfl, nq, rfl⟩) | (go_at_call 29; refine (hr _).mono ?_; rintro e w' ⟨⟨nq2, rfl⟩, a, c, rfl, hs, hq⟩; obtain ⟨g0, o0, ha0, _⟩ := hs.2 0 (by rw [hbl.out]; omega); subst ha0; have hnc : n ≤ c := (by have := hs.1; rw [hbl.out] at this; exact this); have hc1 := hcv.out nq g0 o0 c hs hnc) | (go_at_call 30; refine (look_any (hrd.out _)).mono ?_; rintro e w' ⟨rfl, hp⟩))
      all_goals
        go_ret2
        exact fin.out _ _ hp

/-- The reader's slice is replaced by another that is owned. -/
theorem RdOk.put {w1 : World} {g : Nat} {x v : Value} {l : List UInt8} {at_ : Nat} {br : Bool} (hb : w1.heap[g]? = some (.cells #[x, .int .i64 (at_ : Int), .bool br] 67 (0, 0)))
    (ho : w1.ownsRow 0 5 1 v l.length (l.map byteV)) (hne : v.ownBlock ≠ some g) (hle : at_ ≤ l.length) (hlen : l.length ≤ 1052672) : RdOk (w1.setCell ⟨g, 0, none⟩ v) g v l at_ br :=
  ⟨(heap_setCell_same hb _ _).trans rfl, ((Touch.refl (fun j => j = g) w1).setCell (p := ⟨g, 0, none⟩) (fun _ => rfl) _).owns ho fun j hj e => hne (by rw [hj, e]), hne, hle, hlen⟩

/-- What was not told, copied into a new row. -/
theorem RdOk.compact {w w1 : World} {g : Nat} {sv v1 : Value} {l bs : List UInt8} {at_ : Nat} {br : Bool} (h : RdOk w g sv l at_ br) (ho : w1.ownsRow 0 5 1 v1 bs.length (bs.map byteV))
    (ht : Touch Nothing w w1) (hv : ∀ k, v1.ownBlock = some k → w.heap.size ≤ k) (hl : bs.length ≤ 1052672) :
    RdOk ((w1.setCell ⟨g, 0, none⟩ v1).setCell ⟨g, 1, none⟩ (.int .i64 0)) g v1 bs 0 br ∧ Touch (fun k => k = g) w ((w1.setCell ⟨g, 0, none⟩ v1).setCell ⟨g, 1, none⟩ (.int .i64 0)) := by
  have hg := lt_of_heap h.blk
  have hb := ht.heap h.blk (fun q => q)
  have hne : v1.ownBlock ≠ some g := fun e => by have := hv _ e; omega
  have t2 : Touch (fun j => j = g) w1 ((w1.setCell ⟨g, 0, none⟩ v1).setCell ⟨g, 1, none⟩ (.int .i64 0)) :=
    ((Touch.refl (fun j => j = g) _).setCell (p := ⟨g, 0, none⟩) (fun _ => rfl) _).setCell (p := ⟨g, 1, none⟩) (fun _ => rfl) _
  refine ⟨⟨(heap_setCell_same (heap_setCell_same hb _ _) _ _).trans rfl, t2.owns ho fun j hj e => hne (by rw [hj, e]), hne, Nat.zero_le _, hl⟩, ?_⟩
  exact Touch.trans' (F := fun k => k = g) (ht.mono fun _ _ q => q.elim) t2

/-- Behind an append onto the reader's slice that is stored back. -/
theorem RdOk.app {w w1 : World} {g : Nat} {sv v : Value} {l : List UInt8} {at_ : Nat} {br : Bool} (h : RdOk w g sv l at_ br) (c : ByteArray)
    (ho : w1.ownsRow 0 5 1 v (l.length + c.size) (l.map byteV ++ Lib.strCells c)) (hg : w.grownBy w1 sv.ownBlock) (hv : v.ownBlock = sv.ownBlock ∨ v.ownBlock = some w.heap.size)
    (hlen : l.length + c.size ≤ 1052672) :
    RdOk (w1.setCell ⟨g, 0, none⟩ v) g v (l ++ c.data.toList) at_ br ∧ Touch (fun k => k = g ∨ sv.ownBlock = some k) w (w1.setCell ⟨g, 0, none⟩ v) ∧
      ∀ k, v.ownBlock = some k → sv.ownBlock = some k ∨ w.heap.size ≤ k := by
  have hsz : c.data.toList.length = c.size := Array.length_toList
  have hglt := lt_of_heap h.blk
  have hvg : v.ownBlock ≠ some g := by
    rcases hv with hv | hv <;> rw [hv]
    · exact h.ne
    · intro e; cases e; omega
  have hb : w1.heap[g]? = some (.cells #[sv, .int .i64 (at_ : Int), .bool br] 67 (0, 0)) := (hg.block g hglt (fun e => h.ne e.symm)).trans h.blk
  refine ⟨RdOk.put hb (by rw [List.map_append, List.length_append, hsz, ← strCells_bytes]; exact ho) hvg (by have := h.le; rw [List.length_append]; omega) (by rw [List.length_append, hsz]; exact hlen), ?_, ?_⟩
  · exact ((Touch.refl _ w).grown hg (fun k _ hk => .inr hk)).setCell (p := ⟨g, 0, none⟩) (fun _ => .inl rfl) _
  · intro k hk
    rcases hv with hv | hv <;> rw [hv] at hk
    · exact .inl hk
    · cases hk; exact .inr (Nat.le_refl _)

theorem take_any {w : World} {g : Nat} {sv : Value} {s : St} (h : Rd w g sv s) (c : ByteArray) (hc : c.size ≤ 9223372036854775807) :
    Calls Try.prog 13 #[.pointer (some ⟨g, 0, none⟩), .string c] w fun e w' => e = .returned (.int .i64 (take s c.data.toList).1) ∧ RdPost w g sv (take s c.data.toList).2 w' := by
  have h' := h
  obtain ⟨l, at_, h, hl⟩ := h
  have stay : ∀ nq, RdPost w g sv s (w.drewN nq) := fun nq =>
    ⟨sv, h'.touch (F := Nothing) ((Touch.refl _ _).drewN nq) (fun q => q) (fun _ _ q => q), (Touch.refl _ _).drewN nq, fun k hk => .inl hk⟩
  have c2 := h.c2
  by_cases hb : s.broken = true
  · have hk : take s c.data.toList = (100, s) := by unfold take; rw [if_pos hb]
    rw [hk]
    have fin := Lib.hid (stay 0)
    rw [hb] at c2
    clear hk stay
    go_enter Try.func13, Try.ntmps13
    go_wp2_with (fail)
    go_ret
    exact ⟨rfl, fin.out⟩
  · have hb' : s.broken = false := by simpa using hb
    rw [hb'] at c2
    obtain ⟨n, hn⟩ : ∃ n, n = l.length - at_ := ⟨_, rfl⟩
    have hlen : s.left.length = n := by rw [hl, hn]; simp
    have hn1 : n ≤ 1052672 := by have := h.len; omega
    have Hn := Lib.hid hn
    clear hn
    have hr := fun nq => rest_any (h.drewN nq) Hn
    by_cases hm : 1048576 - (n : Int) < c.size
    · have hk : take s c.data.toList = (2, s) := by unfold take; rw [if_neg hb, if_pos (by rw [hlen]; exact hm)]
      rw [hk]
      have fin := Lib.hid stay
      clear hk stay hlen hb hb'
      go_enter Try.func13, Try.ntmps13
      go_wp2_with (go_at_call 29; refine (hr 0).mono ?_; rintro e w' ⟨⟨nq2, rfl⟩, a, c, rfl, hs, hq⟩)
      go_ret
      exact ⟨rfl, fin.out _⟩
    · have hk : take s c.data.toList = (0, look ⟨s.left ++ c.data.toList, false⟩) := by unfold take; rw [if_neg hb, if_neg (by rw [hlen]; exact hm)]
      rw [hk]
      have c0 := h.c0
      have c1 := h.c1
      have f0 := frz_blk h.blk 0
      have f1 := frz_blk h.blk 1
      have hll := h.len
      have hle := h.le
      by_cases hat : 4096 < at_
      · have hrA : ∀ w2, Touch Nothing w w2 → Calls Try.prog 29 #[.pointer (some ⟨g, 0, none⟩)] w2 (RestPost w2 sv n (l.drop at_)) :=
          fun w2 ht => rest_any (h.touch ht (fun q => q) (fun _ _ q => q)) Hn
        have hbl := Lib.hid (show (l.drop at_).length = n by rw [Hn.out]; simp)
        have hsv : sv ≠ .slice none 0 0 := by
          intro e
          have := h.own
          rw [e] at this
          rcases this.2 with ⟨_, q⟩ | ⟨_, _, _, q, _⟩
          · omega
          · cases q
        have hcs : n + c.size ≤ 1052672 := by omega
        have hgl := lt_of_heap h.blk
        have hb0 := h.blk
        rw [hb'] at h hb0
        -- the whole way, from the first append on
        have cmp : ∀ (k1 k2 : Nat) (v1 : Value) (w1 : World), w1.ownsRow 0 5 1 v1 n ((l.drop at_).map byteV) → (((w.drewN k1).alloc (.cells #[] 5)).drewN k2).grownBy w1 (some w.heap.size) →
            (v1.ownBlock = some w.heap.size ∨ v1.ownBlock = some (w.heap.size + 1)) →
            w1.heap[g]? = some (.cells #[sv, .int .i64 (at_ : Int), .bool false] 67 (0, 0)) ∧
            RdOk ((w1.setCell ⟨g, 0, none⟩ v1).setCell ⟨g, 1, none⟩ (.int .i64 0)) g v1 (l.drop at_) 0 false ∧ Touch (fun k => k = g) w ((w1.setCell ⟨g, 0, none⟩ v1).setCell ⟨g, 1, none⟩ (.int .i64 0)) ∧ ∀ k, v1.ownBlock = some k → w.heap.size ≤ k := by
          intro k1 k2 v1 w1 ho hg hv
          have ht : Touch Nothing w w1 := ((((Touch.refl _ _).drewN k1).alloc _).drewN k2).grown hg (fun k hk e => by cases e; omega)
          have hnew : ∀ k, v1.ownBlock = some k → w.heap.size ≤ k := fun k hk => by rcases hv with hv | hv <;> rw [hv] at hk <;> cases hk <;> omega
          obtain ⟨z1, z2⟩ := RdOk.compact h (by rw [hbl.out]; exact ho) ht hnew (by rw [hbl.out]; omega)
          exact ⟨ht.heap hb0 (fun q => q), z1, z2, hnew⟩
        have fin : ∀ (v1 v2 : Value) (w2 w3 w' : World), Touch (fun k => k = g) w w2 → (∀ k, v1.ownBlock = some k → w.heap.size ≤ k) → RdOk w3 g v2 (l.drop at_ ++ c.data.toList) 0 false →
            Touch (fun k => k = g ∨ v1.ownBlock = some k) w2 w3 → (∀ k, v2.ownBlock = some k → v1.ownBlock = some k ∨ w2.heap.size ≤ k) → RdPost w3 g v2 (look ⟨s.left ++ c.data.toList, false⟩) w' →
            RdPost w g sv (look ⟨s.left ++ c.data.toList, false⟩) w' := by
          intro v1 v2 w2 w3 w' h1 h2 h3 h4 h5 h6
          obtain ⟨sv', q1, q2, q3⟩ := h6
          have h25 : ∀ k, v2.ownBlock = some k → w.heap.size ≤ k := fun k hk => (h5 k hk).elim (h2 k) fun q => Nat.le_trans h1.size q
          have ht := h1.trans h4 (fun k hk q => q.elim id fun q => by have := h2 k q; omega)
          refine ⟨sv', q1, (ht.trans q2 fun k hk q => ?_).mono fun k hk q => .inl q, fun k hk => .inr ?_⟩
          · exact q.elim id fun q => by have := h25 k q; omega
          · rcases q3 k hk with q | q
            · exact h25 k q
            · exact Nat.le_trans ht.size q
        have rd2 : ∀ (v : Value) (w3 : World), RdOk w3 g v (l.drop at_ ++ c.data.toList) 0 false → Rd w3 g v ⟨s.left ++ c.data.toList, false⟩ := fun v w3 q => ⟨_, _, q, by rw [hl]; rfl⟩
        replace cmp := Lib.hid cmp
        replace fin := Lib.hid fin
        replace rd2 := Lib.hid rd2
        replace hrA := Lib.hid hrA
        clear hk stay hlen hb hb' hl hr h' hb0
        generalize l.drop at_ = bs at *
        go_enter Try.func13, Try.ntmps13
        go_wp2_with (first
          | (go_at_call 29; refine (hrA.out _ (by repeat (first | exact Touch.refl _ _ | refine Touch.drewN ?_ _ | refine Touch.alloc ?_ _ | refine Touch.drew ?_))).mono ?_; rintro e w' ⟨⟨nq2, rfl⟩, a, cc, rfl, hs, hq⟩; obtain ⟨⟨ga, oa, sa⟩, rfl⟩ : ∃ p, a = some p := (by cases a; exact absurd (hq rfl) hsv; exact ⟨_, rfl⟩))
          | (at_builtin; refine wpList_app u8s rfl (.tmp 25) (.tmp 27) rfl (v := .slice (some ⟨w.heap.size, 0, none⟩) 0 0) rfl (Touch.owns (F := Nothing) ((Touch.refl _ _).drewN _) (owns_empty (w.drewN _) 5 1) (fun _ _ q => q)) rfl (SlB.src (hs.keep ((Touch.refl Nothing _).drewN _) (fun _ _ q => q)) hbl.out _) (Nat.zero_add n) (List.nil_append _) (by unfold maxLen; omega) (by omega) ?_; intro v1 w1 ho hg hv; obtain ⟨av, cv, rfl⟩ := owns_slice ho; obtain ⟨hb1, q1, q2, q3⟩ := cmp.out _ _ _ _ ho hg (hv.imp (fun q => q) (fun q => q.trans (congrArg some (by simp)))); have e0 := frz_blk hb1 0; have d0 : w1.cell? ⟨g, 0, none⟩ = some sv := (cell_blk hb1 0).trans rfl; have e1 := frz_blk hb1 1; have d1 : w1.cell? ⟨g, 1, none⟩ = some (.int .i64 at_) := (cell_blk hb1 1).trans rfl; clear hb1 ho hg hv)
          | (at_builtin; refine wpList_app_str u8s u8z Try.underlying9 rfl (.tmp 37) (.tmp 38) rfl (v := .slice av n cv) rfl q1.own rfl (k := n + c.size) (by rw [hbl.out]) rfl (by omega) ?_; intro v2 w3 ho hg hv; obtain ⟨av2, cv2, rfl⟩ := owns_slice ho; obtain ⟨r1, r2, r3⟩ := q1.app c (by rw [hbl.out]; exact ho) hg hv (by rw [hbl.out]; exact hcs); have hb2 := (hg.block g (lt_of_heap q1.blk) (fun e => q1.ne e.symm)).trans q1.blk; have e2 := frz_blk hb2 0; have d2 : w3.cell? ⟨g, 0, none⟩ = some (.slice av n cv) := (cell_blk hb2 0).trans rfl; clear hb2 ho hg hv)
          | (go_at_call 30; refine (look_any (rd2.out _ _ r1)).mono ?_; rintro e w' ⟨rfl, hp⟩))
        go_ret
        exact ⟨rfl, fin.out _ _ _ _ _ q2 q3 r1 r2 r3 hp⟩
      · have hat' : at_ ≤ 4096 := by omega
        have hcs : l.length + c.size ≤ 1052672 := by have := Hn.out; omega
        have fin : ∀ (nq : Nat) (v : Value) (w1 w' : World), RdOk (w1.setCell ⟨g, 0, none⟩ v) g v (l ++ c.data.toList) at_ false → Touch (fun k => k = g ∨ sv.ownBlock = some k) (w.drewN nq) (w1.setCell ⟨g, 0, none⟩ v) →
            (∀ k, v.ownBlock = some k → sv.ownBlock = some k ∨ w.heap.size ≤ k) → RdPost (w1.setCell ⟨g, 0, none⟩ v) g v (look ⟨s.left ++ c.data.toList, false⟩) w' →
            RdPost w g sv (look ⟨s.left ++ c.data.toList, false⟩) w' := by
          intro nq v w1 w' h1 h2 h3 h4
          have ht := (((Touch.refl (fun k => k = g ∨ sv.ownBlock = some k) w).drewN nq).trans' h2)
          obtain ⟨sv', q1, q2, q3⟩ := h4
          refine ⟨sv', q1, ht.trans q2 fun k hk q => ?_, fun k hk => ?_⟩
          · rcases q with q | q
            · exact .inl q
            · rcases h3 k q with q | q
              · exact .inr q
              · omega
          · rcases q3 k hk with q | q
            · exact h3 k q
            · exact .inr (Nat.le_trans ht.size q)
        have rd2 : ∀ (v : Value) (w1 : World), RdOk (w1.setCell ⟨g, 0, none⟩ v) g v (l ++ c.data.toList) at_ false → Rd (w1.setCell ⟨g, 0, none⟩ v) g v ⟨s.left ++ c.data.toList, false⟩ :=
          fun v w1 q => ⟨_, _, q, by rw [hl, List.drop_append_of_le_length hle]⟩
        replace fin := Lib.hid fin
        replace rd2 := Lib.hid rd2
        rw [hb'] at h
        clear hk stay hlen hb hb' hl h'
        go_enter Try.func13, Try.ntmps13
        go_wp2_with (first | (go_at_call 29; refine (hr 0).mono ?_; rintro e w' ⟨⟨nq2, rfl⟩, a, cc, rfl, hs, hq⟩) | (at_builtin; refine wpList_app_str u8s u8z Try.underlying9 rfl (.tmp 37) (.tmp 38) rfl rfl (h.drewN nq2).own rfl rfl rfl (by omega) ?_; intro v1 w1 ho hg hv; obtain ⟨av, cv, rfl⟩ := owns_slice ho; obtain ⟨q1, q2, q3⟩ := (h.drewN nq2).app c ho hg hv hcs; have hb1 := (hg.block g (lt_of_heap h.blk) (fun e => h.ne e.symm)).trans h.blk; have e0 := frz_blk hb1 0; have d0 : w1.cell? ⟨g, 0, none⟩ = some sv := (cell_blk hb1 0).trans rfl; clear hb1) | (go_at_call 30; refine (look_any (rd2.out _ _ q1)).mono ?_; rintro e w' ⟨rfl, hp⟩))
        go_ret
        exact ⟨rfl, fin.out _ _ _ _ q1 q2 q3 hp⟩

end Go.Proofs.Ytoegkcjclgmnbaa
