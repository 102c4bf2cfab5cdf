/-
  Layer 10's reference: One, Of; its reader's long, look, Take, Next, Fork.
-/
import Derived.Test.YtoegkcjclgmnbaaOf
import Derived.WalkSpells
import Derived.Deep.RegionHeld3
namespace Go.Proofs.Ytoegkcjclgmnbaa
open Go.RowKit
set_option linter.unusedVariables false
set_option linter.unusedSimpArgs false

theorem head4 (n : Nat) (h : n ≤ 4096) : (#[Value.int .u8 ((n : Int) / 16777216), .int .u8 ((n : Int) / 65536), .int .u8 ((n : Int) / 256), .int .u8 ((n : Int) % 256)] : Array Value).toList = ([0, 0, UInt8.ofNat (n / 256), UInt8.ofNat n] : List UInt8).map byteV := by
  rw [← head_bytes n h]
  have e1 : (n : Int) / 16777216 = 0 := by omega
  have e2 : (n : Int) / 65536 = 0 := by omega
  rw [e1, e2]

set_option maxRecDepth 100000 in
theorem one_any (w : World) (s : ByteArray) (hs : s.size ≤ 4096) :
    Calls Try.prog 28 #[.string s] w fun e w' => e = .returned (.string ⟨(one (tx s)).toArray⟩) ∧ Below w.heap.size w w' := by
  have hcv := (SlB.made (w := w) (e := 5) (head4 s.size hs) (Nat.le_refl 4) (Touch.refl _ _)).conv (n := 4) rfl 55 5 9 Try.underlying55 Try.underlying5 Try.underlying9 4
  have hfin : (⟨([0, 0, UInt8.ofNat (s.size / 256), UInt8.ofNat s.size] : List UInt8).toArray⟩ : ByteArray) ++ s = ⟨(one (tx s)).toArray⟩ := by
    apply ByteArray.ext
    rw [ByteArray.data_append]
    unfold one
    rw [tx_len]
    simp [tx]
  replace hfin := Lib.hid hfin
  obtain ⟨hd, he⟩ : ∃ hd : ByteArray, hd = ⟨([0, 0, UInt8.ofNat (s.size / 256), UInt8.ofNat s.size] : List UInt8).toArray⟩ := ⟨_, rfl⟩
  rw [← he] at hcv
  have hhs : hd.size = 4 := by rw [he]; rfl
  replace he := Lib.hid he
  go_enter Try.func28, Try.ntmps28
  go_wp2
  go_ret
  refine ⟨?_, (Below.refl _ _).alloc (Nat.le_refl _) _⟩
  rw [← hfin.out, ← he.out]
  rfl

/-- The reference's reader. -/
def RR (w : World) (g : Nat) (s : St) : Prop := ∃ t : ByteArray, w.heap[g]? = some (.cells #[.string t, .bool s.broken] 43 (0, 0)) ∧ tx t = s.left ∧ t.size ≤ 1048576

theorem rlong_no (w : World) (g : Nat) (t : ByteArray) (hc : w.cell? ⟨g, 0, none⟩ = some (.string t)) (h : t.size < 4) :
    Calls Try.prog 33 #[.pointer (some ⟨g, 0, none⟩)] w fun e w' => e = .returned (.int .i64 (-1)) ∧ ∃ nq, w' = w.drewN nq := by
  go_enter Try.func33, Try.ntmps33
  go_wp2
  go_ret
  exact ⟨rfl, 0, rfl⟩

theorem four_wrap (a b c d : UInt8) : wrap64 (wrap64 (wrap64 (wrap64 (wrap64 (a.toNat : Int) * 16777216) + wrap64 (wrap64 (b.toNat : Int) * 65536)) + wrap64 (wrap64 (c.toNat : Int) * 256)) + wrap64 (d.toNat : Int)) = ((num4 a b c d : Nat) : Int) := by
  have ha := a.toNat_lt; have hb := b.toNat_lt; have hc := c.toNat_lt; have hd := d.toNat_lt
  unfold num4
  generalize a.toNat = a at *
  generalize b.toNat = b at *
  generalize c.toNat = c at *
  generalize d.toNat = d at *
  rw [IntWalk.wrap64_in (a : Int) (by omega), IntWalk.wrap64_in (b : Int) (by omega), IntWalk.wrap64_in (c : Int) (by omega), IntWalk.wrap64_in (d : Int) (by omega),
    IntWalk.wrap64_in ((a : Int) * 16777216) (by omega), IntWalk.wrap64_in ((b : Int) * 65536) (by omega), IntWalk.wrap64_in ((c : Int) * 256) (by omega),
    IntWalk.wrap64_in ((a : Int) * 16777216 + (b : Int) * 65536) (by omega), IntWalk.wrap64_in ((a : Int) * 16777216 + (b : Int) * 65536 + (c : Int) * 256) (by omega), IntWalk.wrap64_in _ (by omega)]
  omega

theorem long_bytes (t : ByteArray) (h : 4 ≤ t.size) : long (tx t) = some (num4 (t[0]'(by omega)) (t[1]'(by omega)) (t[2]'(by omega)) (t[3]'(by omega))) := by
  obtain ⟨a, b, c, d, r, hr⟩ := four (l := tx t) (by rw [tx_len]; exact h)
  have hg : ∀ i (hi : i < t.size), t[i] = (tx t)[i]'(by rw [tx_len]; exact hi) := fun i hi => by simp [tx]; rfl
  rw [hg 0, hg 1, hg 2, hg 3]
  simp only [hr]
  rfl

theorem rlong_yes (w : World) (g : Nat) (t : ByteArray) (hc : w.cell? ⟨g, 0, none⟩ = some (.string t)) (h : 4 ≤ t.size) (hm : t.size ≤ 1048576) {n : Nat} (hn : long (tx t) = some n) :
    Calls Try.prog 33 #[.pointer (some ⟨g, 0, none⟩)] w fun e w' => e = .returned (.int .i64 (n : Int)) ∧ ∃ nq, w' = w.drewN nq := by
  have i0 : 0 < t.size := by omega
  have i1 : (1 : Int) < (t.size : Int) := by omega
  have i2 : (2 : Int) < (t.size : Int) := by omega
  have i3 : (3 : Int) < (t.size : Int) := by omega
  have hn' := Lib.hid (Option.some.inj ((long_bytes t h).symm.trans hn))
  clear hn
  go_enter Try.func33, Try.ntmps33
  go_wp2
  go_quiet (fail)
  go_wp2
  go_ret
  exact ⟨by rw [four_wrap, hn'.out]; rfl, _, rfl⟩

def RRPost (w : World) (g : Nat) (s : St) (w' : World) : Prop := RR w' g s ∧ Touch (fun k => k = g) w w'

theorem rlook_any {w : World} {g : Nat} {s : St} (h : RR w g s) :
    Calls Try.prog 32 #[.pointer (some ⟨g, 0, none⟩)] w fun e w' => e = .returned (.tuple #[]) ∧ RRPost w g (look s) w' := by
  obtain ⟨t, hb, ht, hm⟩ := h
  have c0 : w.cell? ⟨g, 0, none⟩ = some (.string t) := (cell_blk hb 0).trans rfl
  have c1 : w.cell? ⟨g, 1, none⟩ = some (.bool s.broken) := (cell_blk hb 1).trans rfl
  have f0 := frz_blk hb 0
  have f1 := frz_blk hb 1
  have stay : look s = s → ∀ nq, RRPost w g (look s) (w.drewN nq) := fun e nq => by
    rw [e]; exact ⟨⟨t, hb, ht, hm⟩, (Touch.refl _ _).drewN nq⟩
  by_cases h4 : t.size < 4
  · have hl := rlong_no w g t c0 h4
    have fin := Lib.hid (stay (by unfold look; rw [← ht, long_none (by rw [tx_len]; exact h4)]))
    clear stay hb ht h4
    go_enter Try.func32, Try.ntmps32
    go_wp2_with (go_at_call 33; refine hl.mono ?_; rintro e w' ⟨rfl, nq, rfl⟩)
    go_end0
    exact ⟨rfl, fin.out _⟩
  · have hlb := long_bytes t (by omega)
    generalize num4 _ _ _ _ = n at hlb
    have hl := rlong_yes w g t c0 (by omega) hm hlb
    by_cases hn : 4096 < n
    · have hk : look s = ⟨[], true⟩ := by unfold look; rw [← ht, hlb]; exact if_pos hn
      have fin : ∀ nq, RRPost w g (look s) (((w.drewN nq).setCell ⟨g, 0, none⟩ (.string ⟨#[]⟩)).setCell ⟨g, 1, none⟩ (.bool true)) := fun nq => by
        rw [hk]
        exact ⟨⟨⟨#[]⟩, (heap_setCell_same (heap_setCell_same (w := w.drewN nq) hb _ _) _ _).trans rfl, rfl, Nat.zero_le _⟩,
          (((Touch.refl (fun k => k = g) _).drewN nq).setCell (p := ⟨g, 0, none⟩) (fun _ => rfl) _).setCell (p := ⟨g, 1, none⟩) (fun _ => rfl) _⟩
      replace fin := Lib.hid fin
      clear stay hb ht hlb hk
      go_enter Try.func32, Try.ntmps32
      go_wp2_with (go_at_call 33; refine hl.mono ?_; rintro e w' ⟨rfl, nq, rfl⟩)
      go_end0
      exact ⟨rfl, fin.out _⟩
    · have fin := Lib.hid (stay (by unfold look; rw [← ht, hlb]; exact if_neg hn))
      have hn' : n ≤ 4096 := by omega
      clear stay hb ht hlb
      go_enter Try.func32, Try.ntmps32
      go_wp2_with (go_at_call 33; refine hl.mono ?_; rintro e w' ⟨rfl, nq, rfl⟩)
      go_end0
      exact ⟨rfl, fin.out _⟩

theorem rtake_any {w : World} {g : Nat} {s : St} (h : RR w g s) (c : ByteArray) (hc : c.size ≤ 9223372036854775807) :
    Calls Try.prog 19 #[.pointer (some ⟨g, 0, none⟩), .string c] w fun e w' => e = .returned (.int .i64 (take s (tx c)).1) ∧ RRPost w g (take s (tx c)).2 w' := by
  obtain ⟨t, hb, ht, hm⟩ := h
  have c0 : w.cell? ⟨g, 0, none⟩ = some (.string t) := (cell_blk hb 0).trans rfl
  have c1 : w.cell? ⟨g, 1, none⟩ = some (.bool s.broken) := (cell_blk hb 1).trans rfl
  have f0 := frz_blk hb 0
  have stay : RRPost w g s w := ⟨⟨t, hb, ht, hm⟩, Touch.refl _ _⟩
  have hlen : s.left.length = t.size := by rw [← ht, tx_len]
  by_cases hbr : s.broken = true
  · have hk : take s (tx c) = (100, s) := by unfold take; rw [if_pos hbr]
    rw [hk]
    have fin := Lib.hid stay
    rw [hbr] at c1
    clear hk stay hlen hb ht
    go_enter Try.func19, Try.ntmps19
    go_wp2_with (fail)
    go_ret
    exact ⟨rfl, fin.out⟩
  · have hbr' : s.broken = false := by simpa using hbr
    rw [hbr'] at c1
    by_cases hl : 1048576 - (t.size : Int) < c.size
    · have hk : take s (tx c) = (2, s) := by unfold take; rw [if_neg hbr, if_pos (by rw [hlen, tx_len]; exact hl)]
      rw [hk]
      have fin := Lib.hid stay
      clear hk stay hlen hb ht
      go_enter Try.func19, Try.ntmps19
      go_wp2_with (fail)
      go_ret
      exact ⟨rfl, fin.out⟩
    · have hk : take s (tx c) = (0, look ⟨s.left ++ tx c, false⟩) := by unfold take; rw [if_neg hbr, if_neg (by rw [hlen, tx_len]; exact hl)]
      rw [hk]
      have hsz : (t ++ c).size ≤ 1048576 := by rw [ByteArray.size_append]; omega
      have hrr : RR (w.setCell ⟨g, 0, none⟩ (.string (t ++ c))) g ⟨s.left ++ tx c, false⟩ := by
        rw [hbr'] at hb
        exact ⟨t ++ c, (heap_setCell_same hb _ _).trans rfl, by rw [← ht]; simp [tx], hsz⟩
      have hL := rlook_any hrr
      have fin : ∀ w', RRPost (w.setCell ⟨g, 0, none⟩ (.string (t ++ c))) g (look ⟨s.left ++ tx c, false⟩) w' → RRPost w g (look ⟨s.left ++ tx c, false⟩) w' := fun w' ⟨q1, q2⟩ =>
        ⟨q1, ((Touch.refl (fun k => k = g) _).setCell (p := ⟨g, 0, none⟩) (fun _ => rfl) _).trans' q2⟩
      replace fin := Lib.hid fin
      clear hk stay hlen hb ht hrr hsz
      go_enter Try.func19, Try.ntmps19
      go_wp2_with (go_at_call 32; refine hL.mono ?_; rintro e w' ⟨rfl, hp⟩)
      go_ret
      exact ⟨rfl, fin.out _ hp⟩

def RNextPost (w : World) (g : Nat) (s : St) (e : Ending) (w' : World) : Prop :=
  e = .returned (.tuple #[.string ⟨(next s).1.1.toArray⟩, .bool (next s).1.2]) ∧ RRPost w g (next s).2 w'

theorem rnext_no1 {w : World} {g : Nat} {s : St} (t : ByteArray) (c0 : w.cell? ⟨g, 0, none⟩ = some (.string t)) (h4 : t.size < 4)
    (fin : Hid (∀ nq, RNextPost w g s (.returned (.tuple #[.string ⟨#[]⟩, .bool false])) (w.drewN nq))) :
    Calls Try.prog 20 #[.pointer (some ⟨g, 0, none⟩)] w (RNextPost w g s) := by
  have hl := rlong_no w g t c0 h4
  clear h4
  go_enter Try.func20, Try.ntmps20
  go_wp2_with (go_at_call 33; refine hl.mono ?_; rintro e w' ⟨rfl, nq, rfl⟩)
  go_ret2
  exact fin.out _

theorem rnext_no2 {w : World} {g : Nat} {s : St} (t : ByteArray) (c0 : w.cell? ⟨g, 0, none⟩ = some (.string t)) {n : Nat} (hn : (t.size : Int) - 4 < n) (hm : t.size ≤ 1048576)
    (hl : Calls Try.prog 33 #[.pointer (some ⟨g, 0, none⟩)] w fun e w' => e = .returned (.int .i64 (n : Int)) ∧ ∃ nq, w' = w.drewN nq)
    (fin : Hid (∀ nq, RNextPost w g s (.returned (.tuple #[.string ⟨#[]⟩, .bool false])) (w.drewN nq))) :
    Calls Try.prog 20 #[.pointer (some ⟨g, 0, none⟩)] w (RNextPost w g s) := by
  go_enter Try.func20, Try.ntmps20
  go_wp2_with (go_at_call 33; refine hl.mono ?_; rintro e w' ⟨rfl, nq, rfl⟩)
  go_ret2
  exact fin.out _

set_option maxRecDepth 100000 in
theorem rnext_yes {w : World} {g : Nat} {s : St} (t : ByteArray) (c0 : w.cell? ⟨g, 0, none⟩ = some (.string t)) (f0 : w.frozen? ⟨g, 0, none⟩ = false) {n : Nat} (hn : 4 + n ≤ t.size) (hm : t.size ≤ 1048576)
    (hl : Calls Try.prog 33 #[.pointer (some ⟨g, 0, none⟩)] w fun e w' => e = .returned (.int .i64 (n : Int)) ∧ ∃ nq, w' = w.drewN nq)
    (hL : Hid (∀ nq, Calls Try.prog 32 #[.pointer (some ⟨g, 0, none⟩)] ((w.drewN nq).setCell ⟨g, 0, none⟩ (.string (t.extract (4 + n) t.size))) fun e w' =>
      e = .returned (.tuple #[]) ∧ RNextPost w g s (.returned (.tuple #[.string (t.extract 4 (4 + n)), .bool true])) w')) :
    Calls Try.prog 20 #[.pointer (some ⟨g, 0, none⟩)] w (RNextPost w g s) := by
  go_enter Try.func20, Try.ntmps20
  go_wp2_with (first | (go_at_call 33; refine hl.mono ?_; rintro e w' ⟨rfl, nq, rfl⟩) | (go_at_call 32; refine (hL.out _).mono ?_; rintro e w' ⟨rfl, hp⟩))
  go_ret2
  exact hp

theorem tx_extract (t : ByteArray) (a b : Nat) : tx (t.extract a b) = ((tx t).drop a).take (b - a) := by
  simp [tx, List.extract_eq_take_drop]

theorem rnext_any {w : World} {g : Nat} {s : St} (h : RR w g s) :
    Calls Try.prog 20 #[.pointer (some ⟨g, 0, none⟩)] w (RNextPost w g s) := by
  obtain ⟨t, hb, ht, hm⟩ := h
  have c0 : w.cell? ⟨g, 0, none⟩ = some (.string t) := (cell_blk hb 0).trans rfl
  have hlen : s.left.length = t.size := by rw [← ht, tx_len]
  have stay : next s = (([], false), s) → Hid (∀ nq, RNextPost w g s (.returned (.tuple #[.string ⟨#[]⟩, .bool false])) (w.drewN nq)) := fun hk nq =>
    ⟨by rw [hk], by rw [hk]; exact ⟨⟨t, hb, ht, hm⟩, (Touch.refl _ _).drewN nq⟩⟩
  by_cases h4 : t.size < 4
  · exact rnext_no1 t c0 h4 (stay (by unfold next; rw [← ht, long_none (by rw [tx_len]; exact h4)]))
  · obtain ⟨n, hlb⟩ : ∃ n, long (tx t) = some n := ⟨_, long_bytes t (by omega)⟩
    have hl := rlong_yes w g t c0 (by omega) hm hlb
    by_cases hn : (t.size : Int) - 4 < n
    · exact rnext_no2 t c0 hn hm hl (stay (by unfold next; rw [← ht, hlb]; rw [← ht] at hlen; dsimp only; rw [hlen, if_pos hn]))
    · have hk : next s = (((s.left.drop 4).take n, true), look ⟨s.left.drop (4 + n), s.broken⟩) := by unfold next; rw [← ht, hlb]; rw [← ht] at hlen; dsimp only; rw [hlen, if_neg hn]
      refine rnext_yes t c0 (frz_blk hb 0) (by omega) hm hl fun nq => ?_
      have hrr : RR ((w.drewN nq).setCell ⟨g, 0, none⟩ (.string (t.extract (4 + n) t.size))) g ⟨s.left.drop (4 + n), s.broken⟩ := by
        refine ⟨_, (heap_setCell_same (w := w.drewN nq) hb _ _).trans rfl, ?_, ?_⟩
        · rw [tx_extract, ht, List.take_of_length_le (by rw [List.length_drop, hlen]; omega)]
        · rw [ByteArray.size_extract]; omega
      refine (rlook_any hrr).mono fun e w' ⟨he, q1, q2⟩ => ⟨he, ?_, ?_⟩
      · rw [hk]
        have : t.extract 4 (4 + n) = ⟨((s.left.drop 4).take n).toArray⟩ := by
          have e := tx_extract t 4 (4 + n)
          rw [ht, show 4 + n - 4 = n by omega] at e
          rw [← e]
          exact ByteArray.ext (Array.toArray_toList ..).symm
        rw [this]
      · rw [hk]
        exact ⟨q1, (((Touch.refl (fun k => k = g) _).drewN nq).setCell (p := ⟨g, 0, none⟩) (fun _ => rfl) _).trans' q2⟩

def RForkPost (w : World) (s : St) (e : Ending) (w' : World) : Prop :=
  ∃ g', e = .returned (.pointer (some ⟨g', 0, none⟩)) ∧ RR w' g' s ∧ Touch Nothing w w' ∧ w.heap.size ≤ g'

theorem rfork_any {w : World} {g : Nat} {s : St} (h : RR w g s) : Calls Try.prog 18 #[.pointer (some ⟨g, 0, none⟩)] w (RForkPost w s) := by
  obtain ⟨t, hb, ht, hm⟩ := h
  have c0 : w.cell? ⟨g, 0, none⟩ = some (.string t) := (cell_blk hb 0).trans rfl
  have c1 : w.cell? ⟨g, 1, none⟩ = some (.bool s.broken) := (cell_blk hb 1).trans rfl
  replace ht := Lib.hid ht
  go_enter Try.func18, Try.ntmps18
  go_wp2_with fail
  go_region_held3 (fun w' => w'.cell? ⟨g, 0, none⟩ = some (.string t) ∧ w'.cell? ⟨g, 1, none⟩ = some (.bool s.broken)) (go_keep) (first | fail)
  go_wp2
  go_ret
  exact ⟨w.heap.size, rfl, ⟨t, heap_alloc_new w _, ht.out, hm⟩, ((Touch.refl _ _).alloc _).drew, Nat.le_refl _⟩

set_option maxRecDepth 100000 in
set_option maxHeartbeats 1600000 in
theorem rof_any (w : World) (A : Option Addr) (c : Nat) (ts : List ByteArray) (hs : StrSl w A c ts) (hsum : frLen ts ≤ 140737488355328) :
    Calls Try.prog 10 #[.slice A ts.length c] w fun e w' => e = .returned (.tuple #[.string ⟨(ofS ts).1.toArray⟩, .int .i64 (ofS ts).2]) ∧ Below w.heap.size w w' := by
  have hss := Lib.hid hs
  have hts : ts.length ≤ 140737488355328 := by
    have : ∀ l : List ByteArray, l.length ≤ frLen l := fun l => by
      induction l with
      | nil => simp [frLen]
      | cons a r ih => simp [frLen] at ih ⊢; omega
    have := this ts
    omega
  have hok : (∀ s ∈ ts, s.size ≤ 4096) → ofS ts = (fr ts, 0) := fun h => if_pos (List.all_eq_true.2 fun s hs => decide_eq_true (h s hs))
  have hno : ∀ s ∈ ts, 4096 < s.size → ofS ts = ([], 2) := fun s hs h => if_neg fun q => by
    have := of_decide_eq_true (List.all_eq_true.1 q s hs)
    omega
  replace hok := Lib.hid hok
  replace hno := Lib.hid hno
  replace hsum := Lib.hid hsum
  clear hs
  go_enter Try.func10, Try.ntmps10
  go_wp2
  go_loop [4] (fun i => ∃ k : Nat, k ≤ ts.length ∧ i = .int .i64 (k : Int) ∧ Hid (∀ s ∈ ts.take k, s.size ≤ 4096)) (fun i => ts.length - (intOf i).toNat)
  case atStart => exact ⟨0, Nat.zero_le _, rfl, by intro s hs; simp at hs⟩
  case round =>
    obtain ⟨k, hk, rfl, hall⟩ := hrel
    by_cases hlt : k < ts.length
    · obtain ⟨g, o, rfl, hc1⟩ := hss.out.2 k hlt
      obtain ⟨s, hs⟩ : ∃ s, s = ts[k] := ⟨_, rfl⟩
      rw [← hs] at hc1
      have hmem : s ∈ ts := by rw [hs]; exact List.getElem_mem _
      have hs' := Lib.hid hs
      clear hs
      by_cases hbig : 4096 < s.size
      · have hres := Lib.hid (hno.out s hmem hbig)
        go_wp2
        go_ret2
        exact ⟨by rw [hres.out]; rfl, Below.refl _ _⟩
      · have hbig' : s.size ≤ 4096 := by omega
        have hall' : Hid (∀ s ∈ ts.take (k + 1), s.size ≤ 4096) := by
          intro x hx
          rw [List.take_succ_eq_append_getElem hlt, ← hs'.out] at hx
          rcases List.mem_append.1 hx with hx | hx
          · exact hall.out x hx
          · rw [List.mem_singleton.1 hx]; exact hbig'
        clear hall hmem
        go_wp2
        go_round
        case rel => exact ⟨k + 1, hlt, by go_num, hall'⟩
        case measure => simp [intOf]; omega
    · obtain rfl : k = ts.length := by omega
      rw [List.take_length] at hall
      have hres := Lib.hid (hok.out hall.out)
      go_wp2
      go_loopw [5, 6] (fun v i wr => ∃ k : Nat, k ≤ ts.length ∧ i = .int .i64 (k : Int) ∧ wr.ownsRow 0 5 1 v (fr (ts.take k)).length ((fr (ts.take k)).map byteV) ∧ Below w.heap.size w wr ∧ Hid (∀ q, v.ownBlock = some q → w.heap.size ≤ q))
        (fun _ i _ => ts.length - (intOf i).toNat)
      case atStart => exact ⟨0, Nat.zero_le _, rfl, World.ownsRow_nil _ _ _ _, Below.refl _ _, fun q hq => by simp [Value.ownBlock] at hq⟩
      case round =>
        obtain ⟨k, hk, rfl, hown, hb, hnew⟩ := hrel
        obtain ⟨av, cv, rfl⟩ := owns_slice hown
        by_cases hlt : k < ts.length
        · obtain ⟨g, o, rfl, hc⟩ := hss.out.2 k hlt
          have hc1 := (Touch.ofBelow hb).cell hc (by have := World.block_lt_of_cell? w _ hc; simpa using this)
          obtain ⟨s, hs⟩ : ∃ s, s = ts[k] := ⟨_, rfl⟩
          rw [← hs] at hc1
          have hmem : s ∈ ts := by rw [hs]; exact List.getElem_mem _
          have hbig := hall.out s hmem
          have hfl := frLen_take ts k hlt
          rw [← hs, ← fr_len] at hfl
          have hfl' := hsum.out
          have hfin : (fr (ts.take k)).map byteV ++ (one (tx s)).map byteV = (fr (ts.take (k + 1))).map byteV := by
            rw [List.take_succ_eq_append_getElem hlt, fr_snoc, ← hs, List.map_append]
          have hlen : (fr (ts.take k)).length + (one (tx s)).length = (fr (ts.take (k + 1))).length := by
            rw [List.take_succ_eq_append_getElem hlt, fr_snoc, ← hs, List.length_append]
          have hone : (one (tx s)).length = s.size + 4 := by rw [one_len, tx_len]
          generalize hL : (fr (ts.take k)).length = L at *
          generalize hL2 : (fr (ts.take (k + 1))).length = L2 at *
          generalize hX : (fr (ts.take k)).map byteV = X at *
          generalize hX2 : (fr (ts.take (k + 1))).map byteV = X2 at *
          generalize hO : one (tx s) = O at *
          replace hfin := Lib.hid hfin
          replace hlen := Lib.hid hlen
          replace hone := Lib.hid hone
          have hs' := Lib.hid hs
          have hO' := Lib.hid hO
          have hL' := Lib.hid hL; have hL2' := Lib.hid hL2; have hX' := Lib.hid hX; have hX2' := Lib.hid hX2
          clear hs hO hL hL2 hX hX2 hfl' hmem hc
          have hL2b : L2 ≤ 140737488355328 := by have := hlen.out; have := hone.out; have := hsum.out; omega
          go_wp2_with (first
            | (go_at_call 28; refine (one_any _ s hbig).mono ?_; rw [hO'.out]; rintro e w1 ⟨rfl, hb1⟩)
            | (at_builtin; refine wpList_app_str u8s u8z Try.underlying9 rfl (.tmp 25) (.tmp 30) rfl rfl ((Touch.ofBelow0 hb1).owns hown (fun _ _ q => q)) rfl (k := L2) (zs := X2) (by rw [← hlen.out]; rfl) (by rw [strCells_bytes]; exact hfin.out) hL2b ?_; intro v2 w2 ho hg hv))
          go_roundw
          case rel =>
            refine ⟨k + 1, hlt, by go_num, ?_, ?_, ?_⟩
            · rw [hL2'.out, hX2'.out]; exact ho
            · exact (hb.trans (hb1.mono (by have := hb.size; omega))).grown hg (by have h1 := hb.size; have h2 := hb1.size; omega) (fun q hq => hnew.out q hq)
            · intro q hq
              rcases hv with hv | hv <;> rw [hv] at hq
              · exact hnew.out q hq
              · have e : w1.heap.size = q := Option.some.inj hq
                have h1 := hb.size; have h2 := hb1.size; omega
          case measure => simp [intOf]; omega
        · obtain rfl : k = ts.length := by omega
          rw [List.take_length] at hown
          have hcv := (owns_slB hown).conv rfl 55 5 9 Try.underlying55 Try.underlying5 Try.underlying9 cv
          have hk0 : (fr (ts.take ts.length)).length = (fr ts).length := by rw [List.take_length]
          rw [hk0]
          clear hown hss hk0
          go_wp2
          go_ret2
          exact ⟨by rw [hres.out]; rfl, hb⟩

end Go.Proofs.Ytoegkcjclgmnbaa
