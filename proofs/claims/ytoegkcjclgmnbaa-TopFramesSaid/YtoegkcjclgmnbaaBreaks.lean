/-
  FrameBreaks: the walk of the law, from the contracts.
-/
import Derived.Test.YtoegkcjclgmnbaaJoins
namespace Go.Proofs.Ytoegkcjclgmnbaa
open Go.RowKit
set_option linter.unusedVariables false
set_option linter.unusedSimpArgs false

/-- What is true of a reader at all times. -/
def Sane (s : St) : Prop := s.broken = true → s.left = []

theorem look_sane {s : St} (h : Sane s) : Sane (look s) := by
  unfold look
  split
  · split
    · intro _; rfl
    · exact h
  · exact h

theorem take_cases (s : St) (c : List UInt8) (h : Sane s) :
    (take s c = (100, s) ∧ s.broken = true ∧ s.left = []) ∨ take s c = (2, s) ∨ (take s c = (0, look ⟨s.left ++ c, false⟩) ∧ Sane (look ⟨s.left ++ c, false⟩)) := by
  unfold take
  split
  · rename_i hb; exact .inl ⟨rfl, hb, h hb⟩
  · split
    · exact .inr (.inl rfl)
    · exact .inr (.inr ⟨rfl, look_sane fun q => by cases q⟩)

theorem next_sane {s : St} (h : Sane s) : Sane (next s).2 := by
  unfold next
  split
  · exact h
  · rename_i n hn
    split
    · exact h
    · refine look_sane fun q => ?_
      have e := h q
      rw [e] at hn
      simp [long] at hn

theorem drain_sane : ∀ (n : Nat) {s : St}, Sane s → Sane (drain n s).2
  | 0, s, h => h
  | n + 1, s, h => by
    have hs := next_sane h
    obtain ⟨⟨⟨t, b⟩, s2⟩, hn⟩ : ∃ r, next s = r := ⟨_, rfl⟩
    rw [hn] at hs
    cases b with
    | false => rw [drain_no hn]; exact hs
    | true => rw [drain_yes hn]; exact drain_sane n hs

theorem next_broken {s : St} (h : s.left = []) : next s = (([], false), s) := by
  unfold next; rw [h]; rfl

theorem drain_broken (n : Nat) {s : St} (h : s.left = []) : drain (n + 1) s = ([], s) := drain_no (next_broken h)

theorem take_broken {s : St} (h : s.broken = true) (c : List UInt8) : take s c = (100, s) := by unfold take; rw [if_pos h]

theorem Mine.all {B g : Nat} {s : St} {w0 w w' : World} {sv : Value} {e : Ending} (h : Mine B g s w0 w) (hs : ∀ k, sv.ownBlock = some k → B ≤ k) (hp : AllPost g sv w s e w') : Mine B g (drain mostAll s).2 w0 w' := by
  obtain ⟨v, _, hG⟩ := hp
  obtain ⟨sv', q1, q2, q3⟩ := hG.rd
  have hB := h.hB
  have hsz := hG.touch.size
  refine ⟨⟨sv', q1, fun k hk => (q2 k hk).elim (hs k) fun q => by omega⟩, h.hb.trans (hG.touch.below h.hB fun k hk q => ?_), h.hg, by omega⟩
  rcases q with q | q
  · have := h.hg; omega
  · have := hs k q; omega

theorem Mine.draw {B g : Nat} {s : St} {w0 w : World} (h : Mine B g s w0 w) (n : Nat) : Mine B g s w0 (w.drewN n) := by
  obtain ⟨sv, q1, q2⟩ := h.rd
  exact ⟨⟨sv, q1.touch (F := Nothing) ((Touch.refl _ _).drewN n) (fun q => q) (fun _ _ q => q), q2⟩, h.hb.trans (Touch.below ((Touch.refl Nothing _).drewN n) h.hB fun _ _ q => q), h.hg, h.hB⟩

theorem Mine.keep {B g : Nat} {s : St} {w0 w w' : World} (h : Mine B g s w0 w) (hb : Below w.heap.size w w') : Mine B g s w0 w' := by
  obtain ⟨sv, q1, q2⟩ := h.rd
  have ht := Touch.ofBelow0 hb
  exact ⟨⟨sv, q1.touch ht (fun q => q) (fun _ _ q => q), q2⟩, h.hb.trans (hb.mono h.hB), h.hg, Nat.le_trans h.hB hb.size⟩

set_option maxRecDepth 100000 in
set_option maxHeartbeats 3200000 in
theorem breaks_walk (w : World) (v : Value) (ts : List ByteArray) (hv : StrA w v ts) (hz : ∀ s ∈ ts, s.size ≤ 9223372036854775807) (hl : ts.length * 16 ≤ 140737488351232) (more : ByteArray) (hm : more.size ≤ 9223372036854775807) :
    Calls Try.prog 5 #[v, .string more] w fun e w' => e = .returned (.bool true) ∧ Below w.heap.size w w' := by
  obtain ⟨A, c, rfl, hsl, _⟩ := hv.sl
  have hl' : ts.length ≤ 8796093021952 := by omega
  have hM0 := Lib.hid (Mine.new w w w.heap.size (Below.refl _ _) (Nat.le_refl _))
  replace hz := Lib.hid hz
  have hsl' := Lib.hid hsl
  clear hsl hv hl
  go_enter Try.func5, Try.ntmps5
  go_wp2_with (first
    | (go_at_call 12; refine (new_any _).mono ?_; rintro e w1 ⟨rfl, rfl⟩)
    | (go_at_call 11; refine (works_any _).mono ?_; rintro e w2 ⟨rfl, hb2⟩))
  have hM2 := Lib.hid (hM0.out.keep hb2)
  clear hM0 hb2
  go_loopw [6] (fun i wr => ∃ (k : Nat) (s : St), k ≤ ts.length ∧ i = .int .i64 (k : Int) ∧ Mine w.heap.size w.heap.size s w wr ∧ Hid (Sane s)) (fun i _ => ts.length - (intOf i).toNat)
  case atStart => exact ⟨0, ⟨[], false⟩, Nat.zero_le _, rfl, hM2.out, fun q => by cases q⟩
  case round =>
    obtain ⟨k, s, hk, rfl, hM, hS⟩ := hrel
    by_cases hlt : k < ts.length
    · by_cases h60 : k < 60
      · obtain ⟨g, o, rfl, hc⟩ := hsl'.out.2 k hlt
        have hc1 := (Touch.ofBelow hM.hb).cell hc (by have := World.block_lt_of_cell? w _ hc; simpa using this)
        obtain ⟨t, ht⟩ : ∃ t, t = ts[k] := ⟨_, rfl⟩
        rw [← ht] at hc1
        have htz : t.size ≤ 9223372036854775807 := by rw [ht]; exact hz.out _ (List.getElem_mem _)
        replace htz := Lib.hid htz
        have ht' := Lib.hid ht
        clear ht hc
        obtain ⟨sv, hrd, hsv⟩ := hM.rd
        replace hsv := Lib.hid hsv
        rcases take_cases s (tx t) hS.out with ⟨htk, hbr, hle⟩ | htk | ⟨htk, hsn⟩
        · have hT := Lib.hid (take_is hrd htz.out htk)
          have hdr : (drain mostAll s).2 = s := by rw [show mostAll = 99999 + 1 from rfl, drain_broken _ hle]
          replace hdr := Lib.hid hdr
          replace hle := Lib.hid hle
          replace hbr := Lib.hid hbr
          clear htk
          go_wp2_with (first
            | (go_at_call_of 13 (Value.string t); refine hT.out.mono ?_; rintro e w3 ⟨rfl, hp⟩; have hM3 := hM.step hsv.out hp; obtain ⟨sv3, hrd3, hsv3⟩ := hM3.rd; replace hsv3 := Lib.hid hsv3)
            | (go_at_call 14; refine (all_any hrd3).mono ?_; intro e w4 hp4; have hM4 := hM3.all hsv3.out hp4; obtain ⟨v4, rfl, _⟩ := hp4; rw [hdr.out] at hM4; obtain ⟨sv4, hrd4, hsv4⟩ := hM4.rd; replace hsv4 := Lib.hid hsv4)
            | (go_at_call 16; refine (next_is hrd4 (next_broken hle.out)).mono ?_; rintro e w5 ⟨rfl, hp5⟩; have hM5 := hM4.step hsv4.out hp5; obtain ⟨sv5, hrd5, hsv5⟩ := hM5.rd; replace hsv5 := Lib.hid hsv5)
            | (go_at_call 15; refine (waits_any hrd5).mono ?_; rw [hle.out]; rintro e w6 ⟨rfl, nq, rfl⟩; have hM6 := hM5.draw nq; obtain ⟨sv6, hrd6, hsv6⟩ := hM6.rd; replace hsv6 := Lib.hid hsv6)
            | (go_at_call_of 13 (Value.string more); refine (take_is hrd6 hm (take_broken hbr.out _)).mono ?_; rintro e w7 ⟨rfl, hp7⟩; have hM7 := hM6.step hsv6.out hp7; obtain ⟨sv7, hrd7, hsv7⟩ := hM7.rd; replace hsv7 := Lib.hid hsv7)
            | (go_at_call 13; refine (take_is hrd7 (by decide) (take_broken hbr.out _)).mono ?_; rintro e w8 ⟨rfl, hp8⟩; have hM8 := hM7.step hsv7.out hp8))
          go_ret
          exact ⟨rfl, hM8.hb⟩
        · have hT := Lib.hid (take_is hrd htz.out htk)
          clear htk
          go_wp2_with (first
            | (go_at_call_of 13 (Value.string t); refine hT.out.mono ?_; rintro e w3 ⟨rfl, hp⟩; have hM3 := hM.step hsv.out hp; obtain ⟨sv3, hrd3, hsv3⟩ := hM3.rd; replace hsv3 := Lib.hid hsv3)
            | (go_at_call 14; refine (all_any hrd3).mono ?_; intro e w4 hp4; have hM4 := hM3.all hsv3.out hp4; obtain ⟨v4, rfl, _⟩ := hp4))
          go_ret
          exact ⟨rfl, hM4.hb⟩
        · have hT := Lib.hid (take_is hrd htz.out htk)
          have hsn' := Lib.hid (drain_sane mostAll hsn)
          clear htk hsn
          go_wp2_with (first
            | (go_at_call_of 13 (Value.string t); refine hT.out.mono ?_; rintro e w3 ⟨rfl, hp⟩; have hM3 := hM.step hsv.out hp; obtain ⟨sv3, hrd3, hsv3⟩ := hM3.rd; replace hsv3 := Lib.hid hsv3)
            | (go_at_call 14; refine (all_any hrd3).mono ?_; intro e w4 hp4; have hM4 := hM3.all hsv3.out hp4; obtain ⟨v4, rfl, _⟩ := hp4))
          go_roundw
          case rel => exact ⟨k + 1, _, hlt, by go_num, hM4, hsn'.out⟩
          case measure => simp [intOf]; omega
      · go_wp2
        go_ret
        exact ⟨rfl, hM.hb⟩
    · go_wp2
      go_ret
      exact ⟨rfl, hM.hb⟩

theorem FrameBreaks_walk (W : World) (v0 : Value) (t0 : List ByteArray) (h0 : StrA W v0 t0) (z0 : ∀ s ∈ t0, s.size ≤ 9223372036854775807) (l0 : t0.length * 16 ≤ 140737488351232)
    (s1 : ByteArray) (z1 : s1.size ≤ 140737488351232) :
    Calls Try.prog 5 #[v0, .string s1] W fun e w' => e = .returned (.bool true) ∧ Below W.heap.size W w' :=
  breaks_walk W v0 t0 h0 z0 l0 s1 (by omega)

end Go.Proofs.Ytoegkcjclgmnbaa
