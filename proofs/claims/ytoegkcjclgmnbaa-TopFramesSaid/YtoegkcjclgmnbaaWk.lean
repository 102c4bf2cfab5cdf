/-
  Layer 10: the chapter's example (works); all frames that are there (all).
-/
import Derived.Test.YtoegkcjclgmnbaaFk
import Derived.Test.YtoegkcjclgmnbaaOf
import Derived.WalkSpells
import Derived.Deep.DeepMust
namespace Go.Proofs.Ytoegkcjclgmnbaa
open Go.RowKit
set_option linter.unusedVariables false
set_option linter.unusedSimpArgs false

theorem next_is {w : World} {g : Nat} {sv : Value} {s s' : St} (h : Rd w g sv s) {l : List UInt8} {b : Bool} (hn : next s = ((l, b), s')) :
    Calls Try.prog 16 #[.pointer (some ⟨g, 0, none⟩)] w fun e w' => e = .returned (.tuple #[.string ⟨l.toArray⟩, .bool b]) ∧ RdPost w g sv s' w' := by
  refine (next_any h).mono fun e w' hp => ?_
  unfold NextPost at hp
  rwa [hn] at hp

theorem take_is {w : World} {g : Nat} {sv : Value} {s s' : St} (h : Rd w g sv s) {c : ByteArray} (hc : c.size ≤ 9223372036854775807) {e0 : Int} (hn : take s (tx c) = (e0, s')) :
    Calls Try.prog 13 #[.pointer (some ⟨g, 0, none⟩), .string c] w fun e w' => e = .returned (.int .i64 e0) ∧ RdPost w g sv s' w' := by
  refine (take_any h c hc).mono fun e w' hp => ?_
  rw [show c.data.toList = tx c from rfl, hn] at hp
  exact hp

/-- The example's frame. -/
def exB : List UInt8 := [0, 0, 0, 2, 97, 98]

theorem ex_next (k : Nat) (hk : k < 6) : next ⟨exB.take k, false⟩ = (([], false), ⟨exB.take k, false⟩) := by
  have : ∀ k : Fin 6, next ⟨exB.take k, false⟩ = (([], false), ⟨exB.take k, false⟩) := by decide +kernel
  exact this ⟨k, hk⟩

def exC (k : Nat) : ByteArray := (⟨exB.toArray⟩ : ByteArray).extract k (k + 1)

theorem ex_take (k : Nat) (hk : k < 6) : take ⟨exB.take k, false⟩ (tx (exC k)) = (0, ⟨exB.take (k + 1), false⟩) := by
  have : ∀ k : Fin 6, take ⟨exB.take k, false⟩ (tx (exC k)) = (0, ⟨exB.take (k + 1), false⟩) := by decide +kernel
  exact this ⟨k, hk⟩

theorem ex_size (k : Nat) : (exC k).size ≤ 1 := by
  unfold exC
  rw [ByteArray.size_extract]
  omega

theorem ex_last : next ⟨exB, false⟩ = (([97, 98], true), ⟨[], false⟩) := by decide +kernel

theorem ex_of : ofS [⟨#[97, 98]⟩] = (exB, 0) := by decide +kernel

/-- What a reader that the call made owns, and that nothing of before has turned. -/
structure Mine (B g : Nat) (s : St) (w0 w : World) : Prop where
  rd : ∃ sv, Rd w g sv s ∧ ∀ k, sv.ownBlock = some k → B ≤ k
  hb : Below B w0 w
  hg : B ≤ g
  hB : B ≤ w.heap.size

theorem Mine.step {B g : Nat} {s s' : St} {w0 w w' : World} {sv : Value} (h : Mine B g s w0 w) (hs : ∀ k, sv.ownBlock = some k → B ≤ k) (hp : RdPost w g sv s' w') : Mine B g s' w0 w' := by
  obtain ⟨sv', q1, q2, q3⟩ := hp
  have hB := h.hB
  refine ⟨⟨sv', q1, fun k hk => (q3 k hk).elim (hs k) fun q => by omega⟩, h.hb.trans (q2.below h.hB fun k hk q => ?_), h.hg, Nat.le_trans h.hB q2.size⟩
  rcases q with q | q
  · have := h.hg; omega
  · have := hs k q; omega

theorem Mine.new (w0 w : World) (B : Nat) (hb : Below B w0 w) (hB : B ≤ w.heap.size) : Mine B w.heap.size ⟨[], false⟩ w0 (w.alloc (.cells #[.slice none 0 0, .int .i64 0, .bool false] 67)) :=
  ⟨⟨_, new_rd w, fun k hk => by simp [Value.ownBlock] at hk⟩, hb.alloc hB _, hB, by simp; omega⟩

set_option maxRecDepth 100000 in
set_option maxHeartbeats 1600000 in
theorem works_any (w : World) : Calls Try.prog 11 #[] w fun e w' => e = .returned (.bool true) ∧ Below w.heap.size w w' := by
  have hof := of_any (w.alloc (.cells #[.string ⟨#[97, 98]⟩] 9)) (some ⟨w.heap.size, 0, none⟩) 1 [⟨#[97, 98]⟩]
    ⟨Nat.le_refl _, fun i hi => ⟨w.heap.size, 0, rfl, by
      obtain rfl : i = 0 := by simpa using hi
      rw [cell_blk (heap_alloc_new w _)]; rfl⟩⟩ (by decide)
  rw [ex_of] at hof
  go_enter Try.func11, Try.ntmps11
  go_wp2_with (first
    | (go_at_call 9; refine hof.mono ?_; rintro e w1 ⟨rfl, hb1⟩)
    | (go_at_call 12; refine (new_any _).mono ?_; rintro e w2 ⟨rfl, rfl⟩))
  have hM := Mine.new w w1 w.heap.size (((Below.refl _ w).alloc (Nat.le_refl _) _).trans (hb1.mono (by simp))) (by have := hb1.size; simp at this; omega)
  have hM := Lib.hid hM
  go_loopw [25] (fun i wr => ∃ k : Nat, k ≤ 6 ∧ i = .int .i64 (k : Int) ∧ Mine w.heap.size w1.heap.size ⟨exB.take k, false⟩ w wr) (fun i _ => 6 - (intOf i).toNat)
  case atStart => exact ⟨0, by omega, rfl, hM.out⟩
  case round =>
    obtain ⟨k, hk, rfl, hM⟩ := hrel
    obtain ⟨sv, hrd, hsv⟩ := hM.rd
    by_cases hlt : k < 6
    · have hsv' := Lib.hid hsv
      clear hsv
      have hN := Lib.hid (next_is hrd (ex_next k hlt))
      have hx : (k : Int) + 1 ≤ (exB.length : Int) := by show (k : Int) + 1 ≤ ((6 : Nat) : Int); omega
      go_wp2_with (first
        | (go_at_call 16; refine hN.out.mono ?_; rintro e w3 ⟨rfl, hp⟩; have hM3 := hM.step hsv'.out hp; obtain ⟨sv3, hrd3, hsv3⟩ := hM3.rd; replace hsv3 := Lib.hid hsv3)
        | (go_at_call 13; refine (take_is hrd3 (c := exC k) (by have := ex_size k; omega) (ex_take k hlt)).mono ?_; rintro e w4 ⟨rfl, hp4⟩; have hM4 := hM3.step hsv3.out hp4))
      go_roundw
      case rel =>
        refine ⟨_, _, _, _, _, _, _, _, _, _, _, _, _, _, _, _, _, _, _, _, _, _, _, _, ⟨k + 1, hlt, ?_, hM4⟩, rfl⟩
        go_num
      case measure => simp [intOf]; omega
    · obtain rfl : k = 6 := by omega
      have hN := Lib.hid (next_is hrd ex_last)
      replace hsv := Lib.hid hsv
      go_wp2_with (first
        | (go_at_call 16; refine hN.out.mono ?_; rintro e w3 ⟨rfl, hp⟩; have hM3 := hM.step hsv.out hp; obtain ⟨sv3, hrd3, hsv3⟩ := hM3.rd; replace hsv3 := Lib.hid hsv3)
        | (go_at_call 15; refine (waits_any hrd3).mono ?_; rintro e w4 ⟨rfl, nq, rfl⟩))
      go_ret
      exact ⟨rfl, hM3.hb.trans (Touch.below ((Touch.refl Nothing _).drewN nq) hM3.hB (fun _ _ q => q))⟩

/-- A text as a cell holds it. -/
def strV (l : List UInt8) : Value := .string ⟨l.toArray⟩

theorem strs : Elt Try.prog 22 9 1 16 := Elt.mk' (z := .string ⟨#[]⟩) Try.underlying22 (by kernel_rfl) rfl (by decide)

theorem strV_one (l : List (List UInt8)) : ∀ u ∈ l.map strV, u.oneCell' = true := by
  intro u hu
  obtain ⟨b, _, rfl⟩ := List.mem_map.1 hu
  rfl

/-- Where the walk of 'all' stands: v owns the texts ts that were told, the reader holds s. -/
structure Got (g : Nat) (sv0 : Value) (w : World) (v : Value) (ts : List (List UInt8)) (s : St) (wr : World) : Prop where
  own : wr.ownsRow 0 9 1 v ts.length (ts.map strV)
  new : ∀ k, v.ownBlock = some k → w.heap.size ≤ k
  rd : ∃ sv, Rd wr g sv s ∧ (∀ k, sv.ownBlock = some k → sv0.ownBlock = some k ∨ w.heap.size ≤ k) ∧ ∀ k, v.ownBlock = some k → sv.ownBlock ≠ some k
  touch : Touch (fun k => k = g ∨ sv0.ownBlock = some k) w wr
  hg : g < w.heap.size
  hs0 : ∀ k, sv0.ownBlock = some k → k < w.heap.size

theorem rd_lt {w : World} {g : Nat} {sv : Value} {s : St} (h : Rd w g sv s) : g < w.heap.size ∧ ∀ k, sv.ownBlock = some k → k < w.heap.size := by
  obtain ⟨l, at_, h, _⟩ := h
  exact ⟨lt_of_heap h.blk, fun k hk => (h.own.lt k hk).2⟩

theorem Got.start {w : World} {g : Nat} {sv : Value} {s : St} (h : Rd w g sv s) : Got g sv w (.slice none 0 0) [] s w :=
  ⟨World.ownsRow_nil _ _ _ _, fun k hk => by simp [Value.ownBlock] at hk, ⟨sv, h, fun k hk => .inl hk, fun k hk => by simp [Value.ownBlock] at hk⟩, Touch.refl _ _, (rd_lt h).1, (rd_lt h).2⟩

/-- A call of the reader's between. -/
theorem Got.call {w wr w1 : World} {g : Nat} {sv0 sv v : Value} {ts : List (List UInt8)} {s s' : St} (h : Got g sv0 w v ts s wr) (hrd : Rd wr g sv s) (h1 : ∀ k, sv.ownBlock = some k → sv0.ownBlock = some k ∨ w.heap.size ≤ k)
    (h2 : ∀ k, v.ownBlock = some k → sv.ownBlock ≠ some k) (hp : RdPost wr g sv s' w1) : Got g sv0 w v ts s' w1 := by
  obtain ⟨sv', q1, q2, q3⟩ := hp
  have hg := h.hg
  have hvlt : ∀ k, v.ownBlock = some k → k < wr.heap.size := fun k hk => (h.own.lt k hk).2
  have hsz := h.touch.size
  refine ⟨q2.owns h.own fun k hk q => ?_, h.new, ⟨sv', q1, fun k hk => ?_, fun k hk e => ?_⟩, h.touch.trans q2 fun k hk q => ?_, h.hg, h.hs0⟩
  · rcases q with q | q
    · have := h.new k hk; omega
    · exact h2 k hk q
  · rcases q3 k hk with q | q
    · exact h1 k q
    · exact .inr (by omega)
  · rcases q3 k e with q | q
    · exact h2 k hk q
    · have := hvlt k hk; omega
  · rcases q with q | q
    · exact .inl q
    · rcases h1 k q with q | q
      · exact .inr q
      · omega

/-- An append onto what was told. -/
theorem Got.app {w wr w1 : World} {g : Nat} {sv0 v v' : Value} {ts : List (List UInt8)} {s : St} {o : Obj} (h : Got g sv0 w v ts s wr) (t : List UInt8)
    (ho : w1.ownsRow 0 9 1 v' (ts.length + 1) (ts.map strV ++ [strV t])) (hg : (wr.alloc o).grownBy w1 v.ownBlock) (hv : v'.ownBlock = v.ownBlock ∨ v'.ownBlock = some (wr.alloc o).heap.size) :
    Got g sv0 w v' (ts ++ [t]) s w1 := by
  obtain ⟨sv, hrd, h1, h2⟩ := h.rd
  have hvlt : ∀ k, v.ownBlock = some k → k < wr.heap.size := fun k hk => (h.own.lt k hk).2
  have hsz := h.touch.size
  have hrl := rd_lt hrd
  have ht : Touch (fun k => v.ownBlock = some k) wr w1 := ((Touch.refl _ wr).alloc o).grown hg fun k _ hk => hk
  have hgv : ∀ k, v'.ownBlock = some k → v.ownBlock = some k ∨ wr.heap.size ≤ k := fun k hk => by
    rcases hv with hv | hv <;> rw [hv] at hk
    · exact .inl hk
    · have := Option.some.inj hk; simp at this; exact .inr (by omega)
  have hg0 := h.hg
  refine ⟨by simpa using ho, fun k hk => ?_, ⟨sv, hrd.touch ht (fun q => ?_) (fun k hk q => h2 k q hk), h1, fun k hk e => ?_⟩, h.touch.trans ht fun k hk q => ?_, h.hg, h.hs0⟩
  · rcases hgv k hk with q | q
    · exact h.new k q
    · omega
  · have := h.new g q; omega
  · rcases hgv k hk with q | q
    · exact h2 k q e
    · have := hrl.2 k e; omega
  · have := h.new k q; omega

/-- How many frames 'all' tells at most: behind a name, so that nothing counts it up. -/
def mostAll : Nat := 100000

def AllPost (g : Nat) (sv : Value) (w : World) (s : St) (e : Ending) (w' : World) : Prop :=
  ∃ v, e = .returned v ∧ Got g sv w v (drain mostAll s).1 (drain mostAll s).2 w'

set_option maxRecDepth 100000 in
set_option maxHeartbeats 1600000 in
theorem all_any {w : World} {g : Nat} {sv : Value} {s : St} (h : Rd w g sv s) : Calls Try.prog 14 #[.pointer (some ⟨g, 0, none⟩)] w (AllPost g sv w s) := by
  have h0 := Lib.hid (Got.start h)
  clear h
  go_enter Try.func14, Try.ntmps14
  go_wp2
  go_loopw [3, 6] (fun v i wr => ∃ (k : Nat) (ts : List (List UInt8)) (s1 : St), k ≤ 100000 ∧ i = .int .i64 (k : Int) ∧ ts.length = k ∧ Got g sv w v ts s1 wr ∧ Hid (drain mostAll s = (ts ++ (drain (mostAll - k) s1).1, (drain (mostAll - k) s1).2)))
    (fun _ i _ => 100000 - (intOf i).toNat)
  case atStart => exact ⟨0, [], s, by omega, rfl, rfl, h0.out, rfl⟩
  case round =>
    obtain ⟨k, ts, s1, hk, rfl, hts, hG, hdr⟩ := hrel
    obtain ⟨av, cv, rfl⟩ := owns_slice hG.own
    obtain ⟨sv1, hrd, h1, h2⟩ := hG.rd
    replace h1 := Lib.hid h1
    replace h2 := Lib.hid h2
    replace hts := Lib.hid hts
    by_cases hlt : k < 100000
    · have hki : (k : Int) < 100000 := by omega
      replace hk := Lib.hid hk
      replace hlt := Lib.hid hlt
      obtain ⟨⟨⟨t, b⟩, s2⟩, hnx⟩ : ∃ r, next s1 = r := ⟨_, rfl⟩
      have hN := Lib.hid (next_is hrd hnx)
      cases b with
      | false =>
        have hfin : drain mostAll s = (ts, s2) := by
          rw [hdr.out, show mostAll - k = (99999 - k) + 1 by have := hlt.out; unfold mostAll; omega, drain_no hnx]; simp
        replace hfin := Lib.hid hfin
        clear hnx
        go_wp2_with (go_at_call 16; refine hN.out.mono ?_; rintro e w3 ⟨rfl, hp⟩)
        go_ret
        exact ⟨_, rfl, by rw [hfin.out]; exact hG.call hrd h1.out h2.out hp⟩
      | true =>
        have hfin : drain mostAll s = ((ts ++ [t]) ++ (drain (mostAll - (k + 1)) s2).1, (drain (mostAll - (k + 1)) s2).2) := by
          rw [hdr.out, show mostAll - k = (mostAll - (k + 1)) + 1 by have := hlt.out; unfold mostAll; omega, drain_yes hnx]; simp
        replace hfin := Lib.hid hfin
        clear hnx
        go_wp2_with (first
          | (go_at_call 16; refine hN.out.mono ?_; rintro e w3 ⟨rfl, hp⟩; have hG3 := hG.call hrd h1.out h2.out hp)
          | (at_builtin; refine wpList_app strs rfl (.tmp 16) (.tmp 18) rfl rfl (hG3.own.alloc _) rfl (m := 1) (news := [strV t]) (.inr ⟨⟨w3.heap.size, 0, none⟩, 1, rfl, rfl, cell_one_new _ _ _, by simp [strV, Value.oneCell']⟩) rfl rfl (by unfold maxLen; rw [hts.out]; omega) (by rw [hts.out]; omega) ?_; intro v2 w4 ho hg hv; have hG4 := hG3.app t ho hg hv))
        go_roundw
        case rel =>
          have hk1 : (ts ++ [t]).length = k + 1 := by simp [hts.out]
          have hk2 := hlt.out
          exact ⟨k + 1, ts ++ [t], s2, hk2, by go_num, hk1, hG4, hfin.out⟩
        case measure => have := hlt.out; simp [intOf]; omega
    · obtain rfl : k = 100000 := by omega
      go_wp2
      go_ret
      have e : drain mostAll s = (ts, s1) := by
        rw [hdr.out, show mostAll - 100000 = 0 from rfl]; simp [drain]
      exact ⟨_, rfl, by rw [e]; exact hG⟩

end Go.Proofs.Ytoegkcjclgmnbaa
