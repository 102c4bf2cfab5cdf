/-
  Layer 23, the document's ledger in a world: Back, Late, Open.
-/
import Derived.Test.YtikjcobdddjlbaaRsn
namespace Go.Proofs.Ytikjcobdddjlbaa
open Go.RowKit
set_option linter.unusedVariables false
set_option linter.unusedSimpArgs false

theorem RLed.came {w0 w : World} {g gb cap i : Nat} {m : Lg} (h : RLed w g m (.slice (some ⟨gb, 0, none⟩) m.l.length cap)) (hw : Touch (fun k => k = g) w0 w) (hi : i < m.l.length) (hok : Lg.Ok { m with l := m.l.set i ⟨m.l[i].id, m.l[i].at_, true⟩ }) :
    RPost w0 g (.slice (some ⟨gb, 0, none⟩) m.l.length cap) { m with l := m.l.set i ⟨m.l[i].id, m.l[i].at_, true⟩ } (w.setCell ⟨gb, i * 3 + 2, none⟩ (.bool true)) := by
  have hne : gb ≠ g := fun e => h.ne (by rw [e]; rfl)
  have ht : Touch (fun k => k = gb) w (w.setCell ⟨gb, i * 3 + 2, none⟩ (.bool true)) := (Touch.refl (fun k => k = gb) w).setCell (p := ⟨gb, i * 3 + 2, none⟩) (fun _ => rfl) _
  have ho := owns_set h.own (i * 3 + 2) (.bool true)
  rw [set_came _ _ hi] at ho
  exact ⟨_, ⟨ht.heap h.blk (fun q => hne q.symm), by simpa using ho, h.ne, hok⟩, (hw.mono fun k _ q => .inl q).trans ht fun k _ q => .inr (by rw [q]; rfl), fun k hk => .inl hk⟩

set_option maxRecDepth 100000 in
set_option maxHeartbeats 1600000 in
theorem rback_any {w : World} {g : Nat} {s : Lg} {sv : Value} (h : RLed w g s sv) (t : Int) (id : ByteArray) :
    Calls Try.prog 18 #[.pointer (some ⟨g, 0, none⟩), .int .i64 t, .string id] w fun e w' => e = .returned (.int .i64 (s.rback t id).1) ∧ RPost w g sv (s.rback t id).2 w' := by
  have hM := rmove_any h t
  have hok := (rback_ok h.ok t id).1
  unfold Lg.rback at hok ⊢
  obtain ⟨⟨e0, m⟩, hm⟩ : ∃ r, s.rmove t = r := ⟨_, rfl⟩
  rw [hm] at hM hok ⊢
  simp only [] at hM hok ⊢
  replace hM := Lib.hid hM
  have hlb : e0 = 0 → m.Ok := fun he => by subst he; have := rmove_ok h.ok t; rw [hm] at this; exact this
  obtain ⟨avs, cvs, rfl⟩ := owns_slice h.own
  clear h hm
  by_cases he : e0 = 0
  · subst he
    have hmo := hlb rfl
    have hml := hmo.len
    rw [if_neg (by simp)] at hok ⊢
    replace hok := Lib.hid hok
    replace hmo := Lib.hid hmo
    clear hlb
    cases hh : rhas m id with
    | false =>
      have hb : rback1 (kn m) m.l id = (5, m.l) := rback1_no fun x hx e => by
        have : rhas m id = true := (rhas_iff m id).2 ⟨x, hx, e⟩
        rw [hh] at this; simp at this
      rw [hb]
      replace hh := Lib.hid hh
      replace hb := Lib.hid hb
      go_enter Try.func18, Try.ntmps18
      go_wp2_with (first
        | (go_at_call 28; refine hM.out.mono ?_; rintro e w2 ⟨rfl, hl2, ht2⟩)
        | (go_at_call 29; refine (rfind_no hl2 hh.out).mono ?_; rintro e w3 ⟨ht3, rfl⟩))
      go_ret
      exact ⟨rfl, RPost.of (hl2.nothing ht3) (ht2.none ht3)⟩
    | true =>
      replace hh := Lib.hid hh
      obtain ⟨bk, hbk⟩ : ∃ r, rback1 (kn m) m.l id = r := ⟨_, rfl⟩
      rw [hbk] at hok ⊢
      obtain ⟨be, bl⟩ := bk
      simp only [] at hok ⊢
      replace hbk := Lib.hid hbk
      go_enter Try.func18, Try.ntmps18
      go_upto_region 5 with (first
        | (go_at_call 28; refine hM.out.mono ?_; rintro e w2 ⟨rfl, hl2, ht2⟩)
        | (go_at_call 29; refine (rfind_yes hl2 hh.out).mono ?_; rintro e w3 ⟨ht3, i, hi, rfl, hid, hfst⟩))
      have hl3 := hl2.nothing ht3
      have ht4 := ht2.none ht3
      obtain ⟨gb', cap', hv', ⟨k0, k1, k2⟩, hf⟩ := rrow_cells hl3.own hi
      obtain ⟨_, _, hvv⟩ := owns_slice hl3.own
      rw [hv'] at hvv
      have hlen' : (Value.slice avs s.l.length cvs) = .slice (some ⟨gb', 0, none⟩) m.l.length cap' := hv'
      injection hlen' with q1 q2 q3
      subst q1
      subst q3
      rw [q2] at hl3
      have d4 := (cell_blk hl3.blk 4).trans rfl
      have f2 := hf (i * 3 + 2)
      have hat := rback1_at hi hid hfst
      rw [hbk.out] at hat
      have hcm := hl3.came ht4 hi
      obtain ⟨cm, hc⟩ : ∃ cm, cm = m.l[i].came := ⟨_, rfl⟩
      rw [← hc] at k2 hat
      clear k0 k1 hf hfst hid hc hl2 hv'
      replace hl3 := Lib.hid hl3
      replace hcm := Lib.hid hcm
      have hiI : (i : Int) < (m.l.length : Int) := by omega
      cases cm
      · rw [if_neg (by simp)] at hat
        cases hat
        go_wp2
        go_ret
        rw [q2]
        exact ⟨rfl, hcm.out hok.out⟩
      · rw [if_pos rfl] at hat
        cases hat
        go_wp2
        go_ret
        rw [q2]
        exact ⟨rfl, RPost.of hl3.out ht4⟩
  · rw [if_pos he]
    have hb : (e0 != 0) = true := by simpa using he
    clear hok hlb
    go_enter Try.func18, Try.ntmps18
    go_wp2_with (go_at_call 28; refine hM.out.mono ?_; rintro e w2 ⟨rfl, hl2, ht2⟩)
    go_ret
    exact ⟨rfl, RPost.of hl2 ht2⟩

set_option maxHeartbeats 1600000 in
theorem ropen_any {w : World} {g : Nat} {s : Lg} {sv : Value} (h : RLed w g s sv) :
    Calls Try.prog 21 #[.pointer (some ⟨g, 0, none⟩)] w fun e w' => e = .returned (.int .i64 ((s.l.countP (ropenP s) : Nat) : Int)) ∧ Touch Nothing w w' := by
  obtain ⟨av, cv, rfl⟩ := owns_slice h.own
  have hlen := h.ok.len
  have c4 := fun (w' : World) (ht : Touch Nothing w w') => (cell_blk (ht.heap h.blk (fun q => q)) 4).trans (rfl : _ = some (Value.slice av s.l.length cv))
  obtain ⟨n, hn⟩ : ∃ n, n = s.l.length := ⟨_, rfl⟩
  rw [← hn] at h c4 hlen
  replace hn := Lib.hid hn
  replace h := Lib.hid h
  replace c4 := Lib.hid c4
  obtain ⟨tot, htot⟩ : ∃ tot, tot = s.l.countP (ropenP s) := ⟨_, rfl⟩
  rw [← htot]
  replace htot := Lib.hid htot
  go_enter Try.func21, Try.ntmps21
  go_wp2
  go_loopw [3, 4] (fun nv iv wr => ∃ (i k : Nat), i ≤ n ∧ k ≤ i ∧ nv = .int .i64 (k : Int) ∧ iv = .int .i64 (i : Int) ∧ Touch Nothing w wr ∧ Hid (k = (s.l.take i).countP (ropenP s))) (fun _ iv _ => n - (intOf iv).toNat)
  case atStart => exact ⟨0, 0, Nat.zero_le _, Nat.le_refl _, rfl, rfl, Touch.refl _ _, Lib.hid (by simp)⟩
  case round =>
    obtain ⟨i, k, hi, hki, rfl, rfl, ht, hk⟩ := hrel
    have d4 := c4.out _ ht
    by_cases hin : i < n
    · have hil : i < s.l.length := by have := hn.out; omega
      obtain ⟨gb, cap, hv, ⟨c0, c1, c2⟩, hf⟩ := rrow_cells (ht.owns h.out.own (fun _ _ q => q)) hil
      cases hv
      have hK := known_any wr g s _ (ht.heap h.out.blk (fun q => q)) h.out.ok s.l[i]
      have hk1 : (s.l.take (i + 1)).countP (ropenP s) = (s.l.take i).countP (ropenP s) + (if kn s s.l[i] && !s.l[i].came then 1 else 0) := by
        rw [List.take_add_one, List.getElem?_eq_getElem hil, List.countP_append]
        simp [List.countP_cons, ropenP, openAt]
      have hc2 : ∀ w2, Touch Nothing wr w2 → w2.cell? ⟨gb, i * 3 + 2, none⟩ = some (.bool s.l[i].came) := fun w2 h2 => h2.cell c2 (fun q => q)
      obtain ⟨⟨xid, xat, xc⟩, hx⟩ : ∃ x, x = s.l[i] := ⟨_, rfl⟩
      rw [← hx] at c0 c1 c2 hK hk1 hc2
      obtain ⟨b, hb⟩ : ∃ b, b = kn s ⟨xid, xat, xc⟩ := ⟨_, rfl⟩
      rw [← hb] at hK hk1
      unfold lpV at hK
      simp only [] at c0 c1 c2 hK hk1 hc2
      clear hf
      replace hb := Lib.hid hb
      replace hK := Lib.hid hK
      replace hx := Lib.hid hx
      replace hk1 := Lib.hid hk1
      replace hc2 := Lib.hid hc2
      cases b
      · go_wp2_with (go_at_call 31; refine hK.out.mono ?_; rintro e w2 ⟨rfl, ht2⟩)
        exact ⟨⟨i + 1, k, by omega, by omega, rfl, by simp, ht.none ht2, Lib.hid (by rw [hk1.out, hk.out]; simp)⟩, by simp [intOf]; omega⟩
      · cases xc
        · go_wp2_with (go_at_call 31; refine hK.out.mono ?_; rintro e w2 ⟨rfl, ht2⟩; have e4 := c4.out _ (ht.none ht2); have e2 := hc2.out _ ht2)
          exact ⟨⟨i + 1, k + 1, by omega, by omega, by simp, by simp, ht.none ht2, Lib.hid (by rw [hk1.out, hk.out]; simp)⟩, by simp [intOf]; omega⟩
        · go_wp2_with (go_at_call 31; refine hK.out.mono ?_; rintro e w2 ⟨rfl, ht2⟩; have e4 := c4.out _ (ht.none ht2); have e2 := hc2.out _ ht2)
          exact ⟨⟨i + 1, k, by omega, by omega, rfl, by simp, ht.none ht2, Lib.hid (by rw [hk1.out, hk.out]; simp)⟩, by simp [intOf]; omega⟩
    · go_wp2
      go_ret
      have : i = s.l.length := by have := hn.out; omega
      subst this
      have e := hk.out
      rw [List.take_length, ← htot.out] at e
      rw [e]
      exact ⟨rfl, ht⟩

end Go.Proofs.Ytikjcobdddjlbaa
