/-
  Layer 23, the document's ledger in a world: Late.
-/
import Derived.Test.YtikjcobdddjlbaaRbk
namespace Go.Proofs.Ytikjcobdddjlbaa
open Go.RowKit
set_option linter.unusedVariables false
set_option linter.unusedSimpArgs false

set_option maxRecDepth 100000 in
set_option maxHeartbeats 3200000 in
theorem rlate_any {w : World} {g : Nat} {s : Lg} {sv : Value} (h : RLed w g s sv) (t : Int) :
    Calls Try.prog 19 #[.pointer (some ⟨g, 0, none⟩), .int .i64 t] w fun e w' => e = .returned (.tuple #[.int .i64 (s.rlate t).1.1, .int .i64 (s.rlate t).1.2]) ∧ RPost w g sv (s.rlate t).2 w' := by
  have hM := rmove_any h t
  unfold Lg.rlate
  obtain ⟨⟨e0, m⟩, hm⟩ : ∃ r, s.rmove t = r := ⟨_, rfl⟩
  rw [hm] at hM ⊢
  simp only [] at hM ⊢
  replace hM := Lib.hid hM
  have hlb : e0 = 0 → m.Ok ∧ m.now = t := fun he => by subst he; have := rmove_ok h.ok t; rw [hm] at this; exact ⟨this, (rmove_now hm).1⟩
  have hmle := rmove_len s t
  rw [hm] at hmle
  obtain ⟨avs, cvs, rfl⟩ := owns_slice h.own
  obtain ⟨n, hn0⟩ : ∃ n, n = s.l.length := ⟨_, rfl⟩
  rw [← hn0] at hM ⊢
  have hn : n = m.l.length := by rw [hn0]; exact congrArg List.length hmle.symm
  clear h hm hn0 hmle
  by_cases he : e0 = 0
  · subst he
    rw [if_pos rfl]
    obtain ⟨hmo, hmt⟩ := hlb rfl
    have hml := hmo.len
    have hmD := hmo.D
    have hmn := hmo.now
    rw [hmt] at hmn
    have hwi := IntWalk.i64_in (t - m.D) (by omega)
    obtain ⟨D, hD⟩ : ∃ D, D = m.D := ⟨_, rfl⟩
    rw [← hD] at hwi hmD
    obtain ⟨tot, htot⟩ : ∃ tot, tot = m.l.countP (rlateP m) := ⟨_, rfl⟩
    rw [← htot]
    replace htot := Lib.hid htot
    replace hmo := Lib.hid hmo
    replace hmt := Lib.hid hmt
    replace hD := Lib.hid hD
    clear hlb
    go_enter Try.func19, Try.ntmps19
    go_upto_region 5 with (go_at_call 28; refine hM.out.mono ?_; rintro e w2 ⟨rfl, hl2, ht2⟩)
    have hlen : n ≤ 4096 := by omega
    have hl2o : w2.ownsRow 0 68 3 (.slice avs n cvs) n (rowC m.l) := by have := hl2.own; rwa [← hn] at this
    replace hl2o := Lib.hid hl2o
    have c4 := fun (w' : World) (ht : Touch Nothing w2 w') => (cell_blk (ht.heap hl2.blk (fun q => q)) 4).trans (rfl : _ = some (Value.slice avs n cvs))
    have c1 := fun (w' : World) (ht : Touch Nothing w2 w') => (cell_blk (ht.heap hl2.blk (fun q => q)) 1).trans (rfl : _ = some (Value.int .i64 m.D))
    rw [← hD.out] at c1
    replace hn := Lib.hid hn
    replace hl2 := Lib.hid hl2
    replace c4 := Lib.hid c4
    replace c1 := Lib.hid c1
    go_wp2
    go_loopw [7, 8] (fun nv iv wr => ∃ (i k : Nat), i ≤ n ∧ k ≤ i ∧ nv = .int .i64 (k : Int) ∧ iv = .int .i64 (i : Int) ∧ Touch Nothing w2 wr ∧ Hid (k = (m.l.take i).countP (rlateP m))) (fun _ iv _ => n - (intOf iv).toNat)
    case atStart => exact ⟨0, 0, Nat.zero_le _, Nat.le_refl _, rfl, rfl, Touch.refl _ _, Lib.hid (by simp)⟩
    case round =>
      obtain ⟨i, k, hi, hki, rfl, rfl, ht, hk⟩ := hrel
      have d4 := c4.out _ ht
      by_cases hin : i < n
      · have hil : i < m.l.length := by have := hn.out; omega
        obtain ⟨gb, cap, hv, ⟨c0, c1', c2⟩, hf⟩ := rrow_cells (ht.owns hl2o.out (fun _ _ q => q)) hil
        cases hv
        have hk1 : (m.l.take (i + 1)).countP (rlateP m) = (m.l.take i).countP (rlateP m) + (if kn m m.l[i] && (!m.l[i].came && decide (m.l[i].at_ ≤ t - D)) then 1 else 0) := by
          rw [List.take_add_one, List.getElem?_eq_getElem hil, List.countP_append, hD.out]
          simp [List.countP_cons, rlateP, lateAt, hmt.out]
        have hK : ∀ w3, Touch Nothing w2 w3 → Calls Try.prog 31 #[.pointer (some ⟨g, 0, none⟩), lpV m.l[i]] w3 fun e w' => e = .returned (.bool (kn m m.l[i])) ∧ Touch Nothing w3 w' :=
          fun w3 h3 => known_any w3 g m _ (h3.heap hl2.out.blk (fun q => q)) hmo.out m.l[i]
        obtain ⟨⟨xid, xat, xc⟩, hx⟩ : ∃ x, x = m.l[i] := ⟨_, rfl⟩
        rw [← hx] at c0 c1' c2 hK hk1
        obtain ⟨b, hb⟩ : ∃ b, b = kn m ⟨xid, xat, xc⟩ := ⟨_, rfl⟩
        rw [← hb] at hK hk1
        unfold lpV at hK
        simp only [] at c0 c1' c2 hK hk1
        have hS : ∀ w3, Touch Nothing wr w3 → (w3.cell? ⟨g, 4, none⟩ = some (.slice (some ⟨gb, 0, none⟩) n cvs) ∧ w3.cell? ⟨g, 1, none⟩ = some (.int .i64 D) ∧ w3.cell? ⟨gb, i * 3, none⟩ = some (.string xid) ∧ w3.cell? ⟨gb, i * 3 + 1, none⟩ = some (.int .i64 xat) ∧ w3.cell? ⟨gb, i * 3 + 2, none⟩ = some (.bool xc) ∧ Touch Nothing wr w3) :=
          fun w3 h3 => ⟨c4.out _ (ht.none h3), c1.out _ (ht.none h3), h3.cell c0 (fun q => q), h3.cell c1' (fun q => q), h3.cell c2 (fun q => q), h3⟩
        have hC : ∀ w3, (w3.cell? ⟨g, 4, none⟩ = some (.slice (some ⟨gb, 0, none⟩) n cvs) ∧ w3.cell? ⟨g, 1, none⟩ = some (.int .i64 D) ∧ w3.cell? ⟨gb, i * 3, none⟩ = some (.string xid) ∧ w3.cell? ⟨gb, i * 3 + 1, none⟩ = some (.int .i64 xat) ∧ w3.cell? ⟨gb, i * 3 + 2, none⟩ = some (.bool xc) ∧ Touch Nothing wr w3) →
            Calls Try.prog 31 #[.pointer (some ⟨g, 0, none⟩), .agg #[.string xid, .int .i64 xat, .bool xc]] w3 fun e w' => e = .returned (.bool b) ∧ (w'.cell? ⟨g, 4, none⟩ = some (.slice (some ⟨gb, 0, none⟩) n cvs) ∧ w'.cell? ⟨g, 1, none⟩ = some (.int .i64 D) ∧ w'.cell? ⟨gb, i * 3, none⟩ = some (.string xid) ∧ w'.cell? ⟨gb, i * 3 + 1, none⟩ = some (.int .i64 xat) ∧ w'.cell? ⟨gb, i * 3 + 2, none⟩ = some (.bool xc) ∧ Touch Nothing wr w') :=
          fun w3 h3 => (hK w3 (ht.none h3.2.2.2.2.2)).mono fun e w' hp => ⟨hp.1, hS _ (h3.2.2.2.2.2.none hp.2)⟩
        clear hf hK c0 c1' c2
        replace hb := Lib.hid hb
        replace hx := Lib.hid hx
        replace hS := Lib.hid hS
        replace hC := Lib.hid hC
        cases b
        · simp only [Bool.false_and] at hk1
          replace hk1 := Lib.hid hk1
          go_upto_region 8 with fail
          refine wp_region_held_drew (S := (fun w3 => w3.cell? ⟨g, 4, none⟩ = some (.slice (some ⟨gb, 0, none⟩) n cvs) ∧ w3.cell? ⟨g, 1, none⟩ = some (.int .i64 D) ∧ w3.cell? ⟨gb, i * 3, none⟩ = some (.string xid) ∧ w3.cell? ⟨gb, i * 3 + 1, none⟩ = some (.int .i64 xat) ∧ w3.cell? ⟨gb, i * 3 + 2, none⟩ = some (.bool xc) ∧ Touch Nothing wr w3)) (by kernel_rfl) ?_ (fun hHeld => ?_)
          · exact hS.out _ ((Touch.refl _ _).drew)
          refine wpAnyH_take (i := 0) (oi := ?oib0) (v := ?vb0) ?hib0 (by kernel_rfl) (by kernel_rfl) (by kernel_rfl) ?hQb0 (Or.inl ⟨?hwb0, ?hyb0⟩) (by assumption) ?hrb0
          case hib0 => (simp only [List.getElem?_toArray, List.getElem?_cons_succ, List.getElem?_cons_zero]; first | done | rfl)
          case hwb0 => rfl
          case hyb0 => (intro w9 hSw; (try dsimp only at hSw); go_simp; try with_reducible rfl)
          case hQb0 => exact fun _ _ _ h => h
          try simp only [Act.put, List.setIfInBounds_toArray, List.set_cons_zero, List.set_cons_succ]
          refine wpAnyH_take (i := 1) (oi := ?oib1) (v := ?vb1) ?hib1 (by kernel_rfl) (by kernel_rfl) (by kernel_rfl) ?hQb1 (Or.inl ⟨?hwb1, ?hyb1⟩) (by assumption) ?hrb1
          case hib1 => (simp only [List.getElem?_toArray, List.getElem?_cons_succ, List.getElem?_cons_zero]; first | done | rfl)
          case hwb1 => rfl
          case hyb1 => (intro w9 hSw; (try dsimp only at hSw); go_simp; try with_reducible rfl)
          case hQb1 => exact fun _ _ _ h => h
          try simp only [Act.put, List.setIfInBounds_toArray, List.set_cons_zero, List.set_cons_succ]
          refine wpAnyH_take (i := 2) (oi := ?oib2) (v := ?vb2) ?hib2 (by kernel_rfl) (by kernel_rfl) (by kernel_rfl) ?hQb2 (Or.inl ⟨?hwb2, ?hyb2⟩) (by assumption) ?hrb2
          case hib2 => (simp only [List.getElem?_toArray, List.getElem?_cons_succ, List.getElem?_cons_zero]; first | done | rfl)
          case hwb2 => rfl
          case hyb2 => (intro w9 hSw; (try dsimp only at hSw); go_simp; try with_reducible rfl)
          case hQb2 => exact fun _ _ _ h => h
          try simp only [Act.put, List.setIfInBounds_toArray, List.set_cons_zero, List.set_cons_succ]
          refine wpAnyH_take (i := 3) (oi := ?oib3) (v := ?vb3) ?hib3 (by kernel_rfl) (by kernel_rfl) (by kernel_rfl) ?hQb3 (Or.inl ⟨?hwb3, ?hyb3⟩) (by assumption) ?hrb3
          case hib3 => (simp only [List.getElem?_toArray, List.getElem?_cons_succ, List.getElem?_cons_zero]; first | done | rfl)
          case hwb3 => rfl
          case hyb3 => (intro w9 hSw; (try dsimp only at hSw); go_simp; try with_reducible rfl)
          case hQb3 => exact fun _ _ _ h => h
          try simp only [Act.put, List.setIfInBounds_toArray, List.set_cons_zero, List.set_cons_succ]
          refine wpAnyH_take (i := 4) (oi := ?oib4) (v := ?vb4) ?hib4 (by kernel_rfl) (by kernel_rfl) (by kernel_rfl) ?hQb4 (Or.inl ⟨?hwb4, ?hyb4⟩) (by assumption) ?hrb4
          case hib4 => (simp only [List.getElem?_toArray, List.getElem?_cons_succ, List.getElem?_cons_zero]; first | done | rfl)
          case hwb4 => rfl
          case hyb4 => (intro w9 hSw; (try dsimp only at hSw); go_simp; try with_reducible rfl)
          case hQb4 => exact fun _ _ _ h => h
          try simp only [Act.put, List.setIfInBounds_toArray, List.set_cons_zero, List.set_cons_succ]
          refine wpAnyH_take (i := 5) (oi := ?oib5) (v := ?vb5) ?hib5 (by kernel_rfl) (by kernel_rfl) (by kernel_rfl) ?hQb5 (Or.inl ⟨?hwb5, ?hyb5⟩) (by assumption) ?hrb5
          case hib5 => (simp only [List.getElem?_toArray, List.getElem?_cons_succ, List.getElem?_cons_zero]; first | done | rfl)
          case hwb5 => rfl
          case hyb5 => (intro w9 hSw; (try dsimp only at hSw); go_simp; try with_reducible rfl)
          case hQb5 => exact fun _ _ _ h => h
          try simp only [Act.put, List.setIfInBounds_toArray, List.set_cons_zero, List.set_cons_succ]
          refine wpAnyH_take (i := 6) (oi := ?oib6) (v := ?vb6) ?hib6 (by kernel_rfl) (by kernel_rfl) (by kernel_rfl) ?hQb6 (Or.inl ⟨?hwb6, ?hyb6⟩) (by assumption) ?hrb6
          case hib6 => (simp only [List.getElem?_toArray, List.getElem?_cons_succ, List.getElem?_cons_zero]; first | done | rfl)
          case hwb6 => rfl
          case hyb6 => (intro w9 hSw; (try dsimp only at hSw); go_simp; try with_reducible rfl)
          case hQb6 => exact fun _ _ _ h => h
          try simp only [Act.put, List.setIfInBounds_toArray, List.set_cons_zero, List.set_cons_succ]
          refine wpAnyH_take (i := 7) (oi := ?oib7) (v := ?vb7) ?hib7 (by kernel_rfl) (by kernel_rfl) (by kernel_rfl) ?hQb7 (Or.inl ⟨?hwb7, ?hyb7⟩) (by assumption) ?hrb7
          case hib7 => (simp only [List.getElem?_toArray, List.getElem?_cons_succ, List.getElem?_cons_zero]; first | done | rfl)
          case hwb7 => rfl
          case hyb7 => (intro w9 hSw; (try dsimp only at hSw); go_simp; try with_reducible rfl)
          case hQb7 => exact fun _ _ _ h => h
          try simp only [Act.put, List.setIfInBounds_toArray, List.set_cons_zero, List.set_cons_succ]
          refine wpAnyH_ready (rs := [8]) (by kernel_rfl) (by simp) ?_
          refine AllReadyH.cons (o := ?oib8) ?hib8 (fun K hK => ?hrb8) AllReadyH.nil
          case hib8 => (simp only [List.getElem?_toArray, List.getElem?_cons_succ, List.getElem?_cons_zero]; first | done | rfl)
          go_simp
          go_at_call 31
          refine (hC.out _ (by assumption)).mono ?_
          rintro e w3 ⟨rfl, hS3⟩
          try go_simp
          refine hK.out _ _ hS3 (fun hHeld2 => ?_)
          clear hK K hHeld
          try simp only [Act.put, List.setIfInBounds_toArray, List.set_cons_zero, List.set_cons_succ]
          refine wpAnyH_take (i := 9) (oi := ?oib9) (v := ?vb9) ?hib9 (by kernel_rfl) (by kernel_rfl) (by kernel_rfl) ?hQb9 (Or.inl ⟨?hwb9, ?hyb9⟩) (by assumption) ?hrb9
          case hib9 => (simp only [List.getElem?_toArray, List.getElem?_cons_succ, List.getElem?_cons_zero]; first | done | rfl)
          case hwb9 => rfl
          case hyb9 => (intro w9 hSw; (try dsimp only at hSw); go_simp; try with_reducible rfl)
          case hQb9 => exact fun _ _ _ h => h
          try simp only [Act.put, List.setIfInBounds_toArray, List.set_cons_zero, List.set_cons_succ]
          refine wpAnyH_take (i := 10) (oi := ?oib10) (v := undef) ?hib10 (by kernel_rfl) (by kernel_rfl) (by kernel_rfl) ?hQb10 (Or.inr ⟨?hwb10, rfl⟩) (by assumption) ?hrb10
          case hib10 => (simp only [List.getElem?_toArray, List.getElem?_cons_succ, List.getElem?_cons_zero]; first | done | rfl)
          case hwb10 => rfl
          case hQb10 => exact fun _ _ _ h => h
          try simp only [Act.put, List.setIfInBounds_toArray, List.set_cons_zero, List.set_cons_succ]
          refine wpAnyH_take (i := 11) (oi := ?oib11) (v := undef) ?hib11 (by kernel_rfl) (by kernel_rfl) (by kernel_rfl) ?hQb11 (Or.inr ⟨?hwb11, rfl⟩) (by assumption) ?hrb11
          case hib11 => (simp only [List.getElem?_toArray, List.getElem?_cons_succ, List.getElem?_cons_zero]; first | done | rfl)
          case hwb11 => rfl
          case hQb11 => exact fun _ _ _ h => h
          try simp only [Act.put, List.setIfInBounds_toArray, List.set_cons_zero, List.set_cons_succ]
          refine wpAnyH_take (i := 12) (oi := ?oib12) (v := undef) ?hib12 (by kernel_rfl) (by kernel_rfl) (by kernel_rfl) ?hQb12 (Or.inr ⟨?hwb12, rfl⟩) (by assumption) ?hrb12
          case hib12 => (simp only [List.getElem?_toArray, List.getElem?_cons_succ, List.getElem?_cons_zero]; first | done | rfl)
          case hwb12 => rfl
          case hQb12 => exact fun _ _ _ h => h
          try simp only [Act.put, List.setIfInBounds_toArray, List.set_cons_zero, List.set_cons_succ]
          refine wpAnyH_take (i := 13) (oi := ?oib13) (v := undef) ?hib13 (by kernel_rfl) (by kernel_rfl) (by kernel_rfl) ?hQb13 (Or.inr ⟨?hwb13, rfl⟩) (by assumption) ?hrb13
          case hib13 => (simp only [List.getElem?_toArray, List.getElem?_cons_succ, List.getElem?_cons_zero]; first | done | rfl)
          case hwb13 => rfl
          case hQb13 => exact fun _ _ _ h => h
          try simp only [Act.put, List.setIfInBounds_toArray, List.set_cons_zero, List.set_cons_succ]
          refine wpAnyH_take (i := 14) (oi := ?oib14) (v := undef) ?hib14 (by kernel_rfl) (by kernel_rfl) (by kernel_rfl) ?hQb14 (Or.inr ⟨?hwb14, rfl⟩) (by assumption) ?hrb14
          case hib14 => (simp only [List.getElem?_toArray, List.getElem?_cons_succ, List.getElem?_cons_zero]; first | done | rfl)
          case hwb14 => rfl
          case hQb14 => exact fun _ _ _ h => h
          try simp only [Act.put, List.setIfInBounds_toArray, List.set_cons_zero, List.set_cons_succ]
          refine wpAnyH_take (i := 15) (oi := ?oib15) (v := undef) ?hib15 (by kernel_rfl) (by kernel_rfl) (by kernel_rfl) ?hQb15 (Or.inr ⟨?hwb15, rfl⟩) (by assumption) ?hrb15
          case hib15 => (simp only [List.getElem?_toArray, List.getElem?_cons_succ, List.getElem?_cons_zero]; first | done | rfl)
          case hwb15 => rfl
          case hQb15 => exact fun _ _ _ h => h
          try simp only [Act.put, List.setIfInBounds_toArray, List.set_cons_zero, List.set_cons_succ]
          refine wpAnyH_take (i := 16) (oi := ?oib16) (v := undef) ?hib16 (by kernel_rfl) (by kernel_rfl) (by kernel_rfl) ?hQb16 (Or.inr ⟨?hwb16, rfl⟩) (by assumption) ?hrb16
          case hib16 => (simp only [List.getElem?_toArray, List.getElem?_cons_succ, List.getElem?_cons_zero]; first | done | rfl)
          case hwb16 => rfl
          case hQb16 => exact fun _ _ _ h => h
          try simp only [Act.put, List.setIfInBounds_toArray, List.set_cons_zero, List.set_cons_succ]
          refine wpAnyH_take (i := 17) (oi := ?oib17) (v := undef) ?hib17 (by kernel_rfl) (by kernel_rfl) (by kernel_rfl) ?hQb17 (Or.inr ⟨?hwb17, rfl⟩) (by assumption) ?hrb17
          case hib17 => (simp only [List.getElem?_toArray, List.getElem?_cons_succ, List.getElem?_cons_zero]; first | done | rfl)
          case hwb17 => rfl
          case hQb17 => exact fun _ _ _ h => h
          try simp only [Act.put, List.setIfInBounds_toArray, List.set_cons_zero, List.set_cons_succ]
          refine wpAnyH_take (i := 18) (oi := ?oib18) (v := undef) ?hib18 (by kernel_rfl) (by kernel_rfl) (by kernel_rfl) ?hQb18 (Or.inr ⟨?hwb18, rfl⟩) (by assumption) ?hrb18
          case hib18 => (simp only [List.getElem?_toArray, List.getElem?_cons_succ, List.getElem?_cons_zero]; first | done | rfl)
          case hwb18 => rfl
          case hQb18 => exact fun _ _ _ h => h
          try simp only [Act.put, List.setIfInBounds_toArray, List.set_cons_zero, List.set_cons_succ]
          refine wpAnyH_take (i := 19) (oi := ?oib19) (v := undef) ?hib19 (by kernel_rfl) (by kernel_rfl) (by kernel_rfl) ?hQb19 (Or.inr ⟨?hwb19, rfl⟩) (by assumption) ?hrb19
          case hib19 => (simp only [List.getElem?_toArray, List.getElem?_cons_succ, List.getElem?_cons_zero]; first | done | rfl)
          case hwb19 => rfl
          case hQb19 => exact fun _ _ _ h => h
          try simp only [Act.put, List.setIfInBounds_toArray, List.set_cons_zero, List.set_cons_succ]
          refine wpAnyH_take (i := 20) (oi := ?oib20) (v := undef) ?hib20 (by kernel_rfl) (by kernel_rfl) (by kernel_rfl) ?hQb20 (Or.inr ⟨?hwb20, rfl⟩) (by assumption) ?hrb20
          case hib20 => (simp only [List.getElem?_toArray, List.getElem?_cons_succ, List.getElem?_cons_zero]; first | done | rfl)
          case hwb20 => rfl
          case hQb20 => exact fun _ _ _ h => h
          try simp only [Act.put, List.setIfInBounds_toArray, List.set_cons_zero, List.set_cons_succ]
          refine wpAnyH_take (i := 21) (oi := ?oib21) (v := undef) ?hib21 (by kernel_rfl) (by kernel_rfl) (by kernel_rfl) ?hQb21 (Or.inr ⟨?hwb21, rfl⟩) (by assumption) ?hrb21
          case hib21 => (simp only [List.getElem?_toArray, List.getElem?_cons_succ, List.getElem?_cons_zero]; first | done | rfl)
          case hwb21 => rfl
          case hQb21 => exact fun _ _ _ h => h
          try simp only [Act.put, List.setIfInBounds_toArray, List.set_cons_zero, List.set_cons_succ]
          refine wpAnyH_take (i := 22) (oi := ?oib22) (v := undef) ?hib22 (by kernel_rfl) (by kernel_rfl) (by kernel_rfl) ?hQb22 (Or.inr ⟨?hwb22, rfl⟩) (by assumption) ?hrb22
          case hib22 => (simp only [List.getElem?_toArray, List.getElem?_cons_succ, List.getElem?_cons_zero]; first | done | rfl)
          case hwb22 => rfl
          case hQb22 => exact fun _ _ _ h => h
          try simp only [Act.put, List.setIfInBounds_toArray, List.set_cons_zero, List.set_cons_succ]
          refine wpAnyH_take (i := 23) (oi := ?oib23) (v := undef) ?hib23 (by kernel_rfl) (by kernel_rfl) (by kernel_rfl) ?hQb23 (Or.inr ⟨?hwb23, rfl⟩) (by assumption) ?hrb23
          case hib23 => (simp only [List.getElem?_toArray, List.getElem?_cons_succ, List.getElem?_cons_zero]; first | done | rfl)
          case hwb23 => rfl
          case hQb23 => exact fun _ _ _ h => h
          try simp only [Act.put, List.setIfInBounds_toArray, List.set_cons_zero, List.set_cons_succ]
          refine wpAnyH_take (i := 24) (oi := ?oib24) (v := undef) ?hib24 (by kernel_rfl) (by kernel_rfl) (by kernel_rfl) ?hQb24 (Or.inr ⟨?hwb24, rfl⟩) (by assumption) ?hrb24
          case hib24 => (simp only [List.getElem?_toArray, List.getElem?_cons_succ, List.getElem?_cons_zero]; first | done | rfl)
          case hwb24 => rfl
          case hQb24 => exact fun _ _ _ h => h
          try simp only [Act.put, List.setIfInBounds_toArray, List.set_cons_zero, List.set_cons_succ]
          refine wpAnyH_take (i := 25) (oi := ?oib25) (v := ?vb25) ?hib25 (by kernel_rfl) (by kernel_rfl) (by kernel_rfl) ?hQb25 (Or.inl ⟨?hwb25, ?hyb25⟩) (by assumption) ?hrb25
          case hib25 => (simp only [List.getElem?_toArray, List.getElem?_cons_succ, List.getElem?_cons_zero]; first | done | rfl)
          case hwb25 => rfl
          case hyb25 => (intro w9 hSw; (try dsimp only at hSw); go_simp; try with_reducible rfl)
          case hQb25 => exact fun _ _ _ h => h
          try simp only [Act.put, List.setIfInBounds_toArray, List.set_cons_zero, List.set_cons_succ]
          refine wpAnyH_take (i := 26) (oi := ?oib26) (v := ?vb26) ?hib26 (by kernel_rfl) (by kernel_rfl) (by kernel_rfl) ?hQb26 (Or.inl ⟨?hwb26, ?hyb26⟩) (by assumption) ?hrb26
          case hib26 => (simp only [List.getElem?_toArray, List.getElem?_cons_succ, List.getElem?_cons_zero]; first | done | rfl)
          case hwb26 => rfl
          case hyb26 => (intro w9 hSw; (try dsimp only at hSw); go_simp; try with_reducible rfl)
          case hQb26 => exact fun _ _ _ h => h
          try simp only [Act.put, List.setIfInBounds_toArray, List.set_cons_zero, List.set_cons_succ]
          refine wpAnyH_take (i := 27) (oi := ?oib27) (v := undef) ?hib27 (by kernel_rfl) (by kernel_rfl) (by kernel_rfl) ?hQb27 (Or.inr ⟨?hwb27, rfl⟩) (by assumption) ?hrb27
          case hib27 => (simp only [List.getElem?_toArray, List.getElem?_cons_succ, List.getElem?_cons_zero]; first | done | rfl)
          case hwb27 => rfl
          case hQb27 => exact fun _ _ _ h => h
          try simp only [Act.put, List.setIfInBounds_toArray, List.set_cons_zero, List.set_cons_succ]
          refine wpAnyH_take (i := 28) (oi := ?oib28) (v := undef) ?hib28 (by kernel_rfl) (by kernel_rfl) (by kernel_rfl) ?hQb28 (Or.inr ⟨?hwb28, rfl⟩) (by assumption) ?hrb28
          case hib28 => (simp only [List.getElem?_toArray, List.getElem?_cons_succ, List.getElem?_cons_zero]; first | done | rfl)
          case hwb28 => rfl
          case hQb28 => exact fun _ _ _ h => h
          try simp only [Act.put, List.setIfInBounds_toArray, List.set_cons_zero, List.set_cons_succ]
          refine wpAnyH_take (i := 29) (oi := ?oib29) (v := undef) ?hib29 (by kernel_rfl) (by kernel_rfl) (by kernel_rfl) ?hQb29 (Or.inr ⟨?hwb29, rfl⟩) (by assumption) ?hrb29
          case hib29 => (simp only [List.getElem?_toArray, List.getElem?_cons_succ, List.getElem?_cons_zero]; first | done | rfl)
          case hwb29 => rfl
          case hQb29 => exact fun _ _ _ h => h
          try simp only [Act.put, List.setIfInBounds_toArray, List.set_cons_zero, List.set_cons_succ]
          refine wpAnyH_take (i := 30) (oi := ?oib30) (v := undef) ?hib30 (by kernel_rfl) (by kernel_rfl) (by kernel_rfl) ?hQb30 (Or.inr ⟨?hwb30, rfl⟩) (by assumption) ?hrb30
          case hib30 => (simp only [List.getElem?_toArray, List.getElem?_cons_succ, List.getElem?_cons_zero]; first | done | rfl)
          case hwb30 => rfl
          case hQb30 => exact fun _ _ _ h => h
          try simp only [Act.put, List.setIfInBounds_toArray, List.set_cons_zero, List.set_cons_succ]
          refine wpAnyH_take (i := 31) (oi := ?oib31) (v := undef) ?hib31 (by kernel_rfl) (by kernel_rfl) (by kernel_rfl) ?hQb31 (Or.inr ⟨?hwb31, rfl⟩) (by assumption) ?hrb31
          case hib31 => (simp only [List.getElem?_toArray, List.getElem?_cons_succ, List.getElem?_cons_zero]; first | done | rfl)
          case hwb31 => rfl
          case hQb31 => exact fun _ _ _ h => h
          try simp only [Act.put, List.setIfInBounds_toArray, List.set_cons_zero, List.set_cons_succ]
          refine wpAnyH_take (i := 32) (oi := ?oib32) (v := undef) ?hib32 (by kernel_rfl) (by kernel_rfl) (by kernel_rfl) ?hQb32 (Or.inr ⟨?hwb32, rfl⟩) (by assumption) ?hrb32
          case hib32 => (simp only [List.getElem?_toArray, List.getElem?_cons_succ, List.getElem?_cons_zero]; first | done | rfl)
          case hwb32 => rfl
          case hQb32 => exact fun _ _ _ h => h
          try simp only [Act.put, List.setIfInBounds_toArray, List.set_cons_zero, List.set_cons_succ]
          refine wpAnyH_take (i := 33) (oi := ?oib33) (v := undef) ?hib33 (by kernel_rfl) (by kernel_rfl) (by kernel_rfl) ?hQb33 (Or.inr ⟨?hwb33, rfl⟩) (by assumption) ?hrb33
          case hib33 => (simp only [List.getElem?_toArray, List.getElem?_cons_succ, List.getElem?_cons_zero]; first | done | rfl)
          case hwb33 => rfl
          case hQb33 => exact fun _ _ _ h => h
          try simp only [Act.put, List.setIfInBounds_toArray, List.set_cons_zero, List.set_cons_succ]
          refine wpAnyH_take (i := 34) (oi := ?oib34) (v := undef) ?hib34 (by kernel_rfl) (by kernel_rfl) (by kernel_rfl) ?hQb34 (Or.inr ⟨?hwb34, rfl⟩) (by assumption) ?hrb34
          case hib34 => (simp only [List.getElem?_toArray, List.getElem?_cons_succ, List.getElem?_cons_zero]; first | done | rfl)
          case hwb34 => rfl
          case hQb34 => exact fun _ _ _ h => h
          try simp only [Act.put, List.setIfInBounds_toArray, List.set_cons_zero, List.set_cons_succ]
          refine wpAnyH_take (i := 35) (oi := ?oib35) (v := undef) ?hib35 (by kernel_rfl) (by kernel_rfl) (by kernel_rfl) ?hQb35 (Or.inr ⟨?hwb35, rfl⟩) (by assumption) ?hrb35
          case hib35 => (simp only [List.getElem?_toArray, List.getElem?_cons_succ, List.getElem?_cons_zero]; first | done | rfl)
          case hwb35 => rfl
          case hQb35 => exact fun _ _ _ h => h
          try simp only [Act.put, List.setIfInBounds_toArray, List.set_cons_zero, List.set_cons_succ]
          refine wpAnyH_take (i := 36) (oi := ?oib36) (v := ?vb36) ?hib36 (by kernel_rfl) (by kernel_rfl) (by kernel_rfl) ?hQb36 (Or.inl ⟨?hwb36, ?hyb36⟩) (by assumption) ?hrb36
          case hib36 => (simp only [List.getElem?_toArray, List.getElem?_cons_succ, List.getElem?_cons_zero]; first | done | rfl)
          case hwb36 => rfl
          case hyb36 => (intro w9 hSw; (try dsimp only at hSw); go_simp; try with_reducible rfl)
          case hQb36 => exact fun _ _ _ h => h
          try simp only [Act.put, List.setIfInBounds_toArray, List.set_cons_zero, List.set_cons_succ]
          refine wpAnyH_done (by kernel_rfl) ?_ _
          go_wp2
          exact ⟨⟨i + 1, k, by omega, by omega, by simp, by simp, ht.none hS3.2.2.2.2.2, Lib.hid (by rw [hk1.out, hk.out]; simp)⟩, by simp [intOf]; omega⟩
        · by_cases hle : xat ≤ t - D
          · rw [decide_eq_true hle] at hk1
            cases xc
            · replace hk1 := Lib.hid hk1
              go_upto_region 8 with fail
              refine wp_region_held_drew (S := (fun w3 => w3.cell? ⟨g, 4, none⟩ = some (.slice (some ⟨gb, 0, none⟩) n cvs) ∧ w3.cell? ⟨g, 1, none⟩ = some (.int .i64 D) ∧ w3.cell? ⟨gb, i * 3, none⟩ = some (.string xid) ∧ w3.cell? ⟨gb, i * 3 + 1, none⟩ = some (.int .i64 xat) ∧ w3.cell? ⟨gb, i * 3 + 2, none⟩ = some (.bool false) ∧ Touch Nothing wr w3)) (by kernel_rfl) ?_ (fun hHeld => ?_)
              · exact hS.out _ ((Touch.refl _ _).drew)
              refine wpAnyH_take (i := 0) (oi := ?oic0) (v := ?vc0) ?hic0 (by kernel_rfl) (by kernel_rfl) (by kernel_rfl) ?hQc0 (Or.inl ⟨?hwc0, ?hyc0⟩) (by assumption) ?hrc0
              case hic0 => (simp only [List.getElem?_toArray, List.getElem?_cons_succ, List.getElem?_cons_zero]; first | done | rfl)
              case hwc0 => rfl
              case hyc0 => (intro w9 hSw; (try dsimp only at hSw); go_simp; try with_reducible rfl)
              case hQc0 => exact fun _ _ _ h => h
              try simp only [Act.put, List.setIfInBounds_toArray, List.set_cons_zero, List.set_cons_succ]
              refine wpAnyH_take (i := 1) (oi := ?oic1) (v := ?vc1) ?hic1 (by kernel_rfl) (by kernel_rfl) (by kernel_rfl) ?hQc1 (Or.inl ⟨?hwc1, ?hyc1⟩) (by assumption) ?hrc1
              case hic1 => (simp only [List.getElem?_toArray, List.getElem?_cons_succ, List.getElem?_cons_zero]; first | done | rfl)
              case hwc1 => rfl
              case hyc1 => (intro w9 hSw; (try dsimp only at hSw); go_simp; try with_reducible rfl)
              case hQc1 => exact fun _ _ _ h => h
              try simp only [Act.put, List.setIfInBounds_toArray, List.set_cons_zero, List.set_cons_succ]
              refine wpAnyH_take (i := 2) (oi := ?oic2) (v := ?vc2) ?hic2 (by kernel_rfl) (by kernel_rfl) (by kernel_rfl) ?hQc2 (Or.inl ⟨?hwc2, ?hyc2⟩) (by assumption) ?hrc2
              case hic2 => (simp only [List.getElem?_toArray, List.getElem?_cons_succ, List.getElem?_cons_zero]; first | done | rfl)
              case hwc2 => rfl
              case hyc2 => (intro w9 hSw; (try dsimp only at hSw); go_simp; try with_reducible rfl)
              case hQc2 => exact fun _ _ _ h => h
              try simp only [Act.put, List.setIfInBounds_toArray, List.set_cons_zero, List.set_cons_succ]
              refine wpAnyH_take (i := 3) (oi := ?oic3) (v := ?vc3) ?hic3 (by kernel_rfl) (by kernel_rfl) (by kernel_rfl) ?hQc3 (Or.inl ⟨?hwc3, ?hyc3⟩) (by assumption) ?hrc3
              case hic3 => (simp only [List.getElem?_toArray, List.getElem?_cons_succ, List.getElem?_cons_zero]; first | done | rfl)
              case hwc3 => rfl
              case hyc3 => (intro w9 hSw; (try dsimp only at hSw); go_simp; try with_reducible rfl)
              case hQc3 => exact fun _ _ _ h => h
              try simp only [Act.put, List.setIfInBounds_toArray, List.set_cons_zero, List.set_cons_succ]
              refine wpAnyH_take (i := 4) (oi := ?oic4) (v := ?vc4) ?hic4 (by kernel_rfl) (by kernel_rfl) (by kernel_rfl) ?hQc4 (Or.inl ⟨?hwc4, ?hyc4⟩) (by assumption) ?hrc4
              case hic4 => (simp only [List.getElem?_toArray, List.getElem?_cons_succ, List.getElem?_cons_zero]; first | done | rfl)
              case hwc4 => rfl
              case hyc4 => (intro w9 hSw; (try dsimp only at hSw); go_simp; try with_reducible rfl)
              case hQc4 => exact fun _ _ _ h => h
              try simp only [Act.put, List.setIfInBounds_toArray, List.set_cons_zero, List.set_cons_succ]
              refine wpAnyH_take (i := 5) (oi := ?oic5) (v := ?vc5) ?hic5 (by kernel_rfl) (by kernel_rfl) (by kernel_rfl) ?hQc5 (Or.inl ⟨?hwc5, ?hyc5⟩) (by assumption) ?hrc5
              case hic5 => (simp only [List.getElem?_toArray, List.getElem?_cons_succ, List.getElem?_cons_zero]; first | done | rfl)
              case hwc5 => rfl
              case hyc5 => (intro w9 hSw; (try dsimp only at hSw); go_simp; try with_reducible rfl)
              case hQc5 => exact fun _ _ _ h => h
              try simp only [Act.put, List.setIfInBounds_toArray, List.set_cons_zero, List.set_cons_succ]
              refine wpAnyH_take (i := 6) (oi := ?oic6) (v := ?vc6) ?hic6 (by kernel_rfl) (by kernel_rfl) (by kernel_rfl) ?hQc6 (Or.inl ⟨?hwc6, ?hyc6⟩) (by assumption) ?hrc6
              case hic6 => (simp only [List.getElem?_toArray, List.getElem?_cons_succ, List.getElem?_cons_zero]; first | done | rfl)
              case hwc6 => rfl
              case hyc6 => (intro w9 hSw; (try dsimp only at hSw); go_simp; try with_reducible rfl)
              case hQc6 => exact fun _ _ _ h => h
              try simp only [Act.put, List.setIfInBounds_toArray, List.set_cons_zero, List.set_cons_succ]
              refine wpAnyH_take (i := 7) (oi := ?oic7) (v := ?vc7) ?hic7 (by kernel_rfl) (by kernel_rfl) (by kernel_rfl) ?hQc7 (Or.inl ⟨?hwc7, ?hyc7⟩) (by assumption) ?hrc7
              case hic7 => (simp only [List.getElem?_toArray, List.getElem?_cons_succ, List.getElem?_cons_zero]; first | done | rfl)
              case hwc7 => rfl
              case hyc7 => (intro w9 hSw; (try dsimp only at hSw); go_simp; try with_reducible rfl)
              case hQc7 => exact fun _ _ _ h => h
              try simp only [Act.put, List.setIfInBounds_toArray, List.set_cons_zero, List.set_cons_succ]
              refine wpAnyH_ready (rs := [8]) (by kernel_rfl) (by simp) ?_
              refine AllReadyH.cons (o := ?oic8) ?hic8 (fun K hK => ?hrc8) AllReadyH.nil
              case hic8 => (simp only [List.getElem?_toArray, List.getElem?_cons_succ, List.getElem?_cons_zero]; first | done | rfl)
              go_simp
              go_at_call 31
              refine (hC.out _ (by assumption)).mono ?_
              rintro e w3 ⟨rfl, hS3⟩
              try go_simp
              refine hK.out _ _ hS3 (fun hHeld2 => ?_)
              clear hK K hHeld
              try simp only [Act.put, List.setIfInBounds_toArray, List.set_cons_zero, List.set_cons_succ]
              refine wpAnyH_take (i := 9) (oi := ?oic9) (v := ?vc9) ?hic9 (by kernel_rfl) (by kernel_rfl) (by kernel_rfl) ?hQc9 (Or.inl ⟨?hwc9, ?hyc9⟩) (by assumption) ?hrc9
              case hic9 => (simp only [List.getElem?_toArray, List.getElem?_cons_succ, List.getElem?_cons_zero]; first | done | rfl)
              case hwc9 => rfl
              case hyc9 => (intro w9 hSw; (try dsimp only at hSw); go_simp; try with_reducible rfl)
              case hQc9 => exact fun _ _ _ h => h
              try simp only [Act.put, List.setIfInBounds_toArray, List.set_cons_zero, List.set_cons_succ]
              refine wpAnyH_take (i := 10) (oi := ?oic10) (v := ?vc10) ?hic10 (by kernel_rfl) (by kernel_rfl) (by kernel_rfl) ?hQc10 (Or.inl ⟨?hwc10, ?hyc10⟩) (by assumption) ?hrc10
              case hic10 => (simp only [List.getElem?_toArray, List.getElem?_cons_succ, List.getElem?_cons_zero]; first | done | rfl)
              case hwc10 => rfl
              case hyc10 => (intro w9 hSw; (try dsimp only at hSw); go_simp; try with_reducible rfl)
              case hQc10 => exact fun _ _ _ h => h
              try simp only [Act.put, List.setIfInBounds_toArray, List.set_cons_zero, List.set_cons_succ]
              refine wpAnyH_take (i := 11) (oi := ?oic11) (v := ?vc11) ?hic11 (by kernel_rfl) (by kernel_rfl) (by kernel_rfl) ?hQc11 (Or.inl ⟨?hwc11, ?hyc11⟩) (by assumption) ?hrc11
              case hic11 => (simp only [List.getElem?_toArray, List.getElem?_cons_succ, List.getElem?_cons_zero]; first | done | rfl)
              case hwc11 => rfl
              case hyc11 => (intro w9 hSw; (try dsimp only at hSw); go_simp; try with_reducible rfl)
              case hQc11 => exact fun _ _ _ h => h
              try simp only [Act.put, List.setIfInBounds_toArray, List.set_cons_zero, List.set_cons_succ]
              refine wpAnyH_take (i := 12) (oi := ?oic12) (v := ?vc12) ?hic12 (by kernel_rfl) (by kernel_rfl) (by kernel_rfl) ?hQc12 (Or.inl ⟨?hwc12, ?hyc12⟩) (by assumption) ?hrc12
              case hic12 => (simp only [List.getElem?_toArray, List.getElem?_cons_succ, List.getElem?_cons_zero]; first | done | rfl)
              case hwc12 => rfl
              case hyc12 => (intro w9 hSw; (try dsimp only at hSw); go_simp; try with_reducible rfl)
              case hQc12 => exact fun _ _ _ h => h
              try simp only [Act.put, List.setIfInBounds_toArray, List.set_cons_zero, List.set_cons_succ]
              refine wpAnyH_take (i := 13) (oi := ?oic13) (v := ?vc13) ?hic13 (by kernel_rfl) (by kernel_rfl) (by kernel_rfl) ?hQc13 (Or.inl ⟨?hwc13, ?hyc13⟩) (by assumption) ?hrc13
              case hic13 => (simp only [List.getElem?_toArray, List.getElem?_cons_succ, List.getElem?_cons_zero]; first | done | rfl)
              case hwc13 => rfl
              case hyc13 => (intro w9 hSw; (try dsimp only at hSw); go_simp; try with_reducible rfl)
              case hQc13 => exact fun _ _ _ h => h
              try simp only [Act.put, List.setIfInBounds_toArray, List.set_cons_zero, List.set_cons_succ]
              refine wpAnyH_take (i := 14) (oi := ?oic14) (v := ?vc14) ?hic14 (by kernel_rfl) (by kernel_rfl) (by kernel_rfl) ?hQc14 (Or.inl ⟨?hwc14, ?hyc14⟩) (by assumption) ?hrc14
              case hic14 => (simp only [List.getElem?_toArray, List.getElem?_cons_succ, List.getElem?_cons_zero]; first | done | rfl)
              case hwc14 => rfl
              case hyc14 => (intro w9 hSw; (try dsimp only at hSw); go_simp; try with_reducible rfl)
              case hQc14 => exact fun _ _ _ h => h
              try simp only [Act.put, List.setIfInBounds_toArray, List.set_cons_zero, List.set_cons_succ]
              refine wpAnyH_take (i := 15) (oi := ?oic15) (v := ?vc15) ?hic15 (by kernel_rfl) (by kernel_rfl) (by kernel_rfl) ?hQc15 (Or.inl ⟨?hwc15, ?hyc15⟩) (by assumption) ?hrc15
              case hic15 => (simp only [List.getElem?_toArray, List.getElem?_cons_succ, List.getElem?_cons_zero]; first | done | rfl)
              case hwc15 => rfl
              case hyc15 => (intro w9 hSw; (try dsimp only at hSw); go_simp; try with_reducible rfl)
              case hQc15 => exact fun _ _ _ h => h
              try simp only [Act.put, List.setIfInBounds_toArray, List.set_cons_zero, List.set_cons_succ]
              refine wpAnyH_take (i := 16) (oi := ?oic16) (v := ?vc16) ?hic16 (by kernel_rfl) (by kernel_rfl) (by kernel_rfl) ?hQc16 (Or.inl ⟨?hwc16, ?hyc16⟩) (by assumption) ?hrc16
              case hic16 => (simp only [List.getElem?_toArray, List.getElem?_cons_succ, List.getElem?_cons_zero]; first | done | rfl)
              case hwc16 => rfl
              case hyc16 => (intro w9 hSw; (try dsimp only at hSw); go_simp; try with_reducible rfl)
              case hQc16 => exact fun _ _ _ h => h
              try simp only [Act.put, List.setIfInBounds_toArray, List.set_cons_zero, List.set_cons_succ]
              refine wpAnyH_take (i := 17) (oi := ?oic17) (v := ?vc17) ?hic17 (by kernel_rfl) (by kernel_rfl) (by kernel_rfl) ?hQc17 (Or.inl ⟨?hwc17, ?hyc17⟩) (by assumption) ?hrc17
              case hic17 => (simp only [List.getElem?_toArray, List.getElem?_cons_succ, List.getElem?_cons_zero]; first | done | rfl)
              case hwc17 => rfl
              case hyc17 => (intro w9 hSw; (try dsimp only at hSw); go_simp; try with_reducible rfl)
              case hQc17 => exact fun _ _ _ h => h
              try simp only [Act.put, List.setIfInBounds_toArray, List.set_cons_zero, List.set_cons_succ]
              refine wpAnyH_take (i := 18) (oi := ?oic18) (v := ?vc18) ?hic18 (by kernel_rfl) (by kernel_rfl) (by kernel_rfl) ?hQc18 (Or.inl ⟨?hwc18, ?hyc18⟩) (by assumption) ?hrc18
              case hic18 => (simp only [List.getElem?_toArray, List.getElem?_cons_succ, List.getElem?_cons_zero]; first | done | rfl)
              case hwc18 => rfl
              case hyc18 => (intro w9 hSw; (try dsimp only at hSw); go_simp; try with_reducible rfl)
              case hQc18 => exact fun _ _ _ h => h
              try simp only [Act.put, List.setIfInBounds_toArray, List.set_cons_zero, List.set_cons_succ]
              refine wpAnyH_take (i := 19) (oi := ?oic19) (v := ?vc19) ?hic19 (by kernel_rfl) (by kernel_rfl) (by kernel_rfl) ?hQc19 (Or.inl ⟨?hwc19, ?hyc19⟩) (by assumption) ?hrc19
              case hic19 => (simp only [List.getElem?_toArray, List.getElem?_cons_succ, List.getElem?_cons_zero]; first | done | rfl)
              case hwc19 => rfl
              case hyc19 => (intro w9 hSw; (try dsimp only at hSw); go_simp; try with_reducible rfl)
              case hQc19 => exact fun _ _ _ h => h
              try simp only [Act.put, List.setIfInBounds_toArray, List.set_cons_zero, List.set_cons_succ]
              refine wpAnyH_take (i := 20) (oi := ?oic20) (v := ?vc20) ?hic20 (by kernel_rfl) (by kernel_rfl) (by kernel_rfl) ?hQc20 (Or.inl ⟨?hwc20, ?hyc20⟩) (by assumption) ?hrc20
              case hic20 => (simp only [List.getElem?_toArray, List.getElem?_cons_succ, List.getElem?_cons_zero]; first | done | rfl)
              case hwc20 => rfl
              case hyc20 => (intro w9 hSw; (try dsimp only at hSw); go_simp; try with_reducible rfl)
              case hQc20 => exact fun _ _ _ h => h
              try simp only [Act.put, List.setIfInBounds_toArray, List.set_cons_zero, List.set_cons_succ]
              refine wpAnyH_take (i := 21) (oi := ?oic21) (v := ?vc21) ?hic21 (by kernel_rfl) (by kernel_rfl) (by kernel_rfl) ?hQc21 (Or.inl ⟨?hwc21, ?hyc21⟩) (by assumption) ?hrc21
              case hic21 => (simp only [List.getElem?_toArray, List.getElem?_cons_succ, List.getElem?_cons_zero]; first | done | rfl)
              case hwc21 => rfl
              case hyc21 => (intro w9 hSw; (try dsimp only at hSw); go_simp; try with_reducible rfl)
              case hQc21 => exact fun _ _ _ h => h
              try simp only [Act.put, List.setIfInBounds_toArray, List.set_cons_zero, List.set_cons_succ]
              refine wpAnyH_take (i := 22) (oi := ?oic22) (v := ?vc22) ?hic22 (by kernel_rfl) (by kernel_rfl) (by kernel_rfl) ?hQc22 (Or.inl ⟨?hwc22, ?hyc22⟩) (by assumption) ?hrc22
              case hic22 => (simp only [List.getElem?_toArray, List.getElem?_cons_succ, List.getElem?_cons_zero]; first | done | rfl)
              case hwc22 => rfl
              case hyc22 => (intro w9 hSw; (try dsimp only at hSw); go_simp; try with_reducible rfl)
              case hQc22 => exact fun _ _ _ h => h
              try simp only [Act.put, List.setIfInBounds_toArray, List.set_cons_zero, List.set_cons_succ]
              refine wpAnyH_take (i := 23) (oi := ?oic23) (v := ?vc23) ?hic23 (by kernel_rfl) (by kernel_rfl) (by kernel_rfl) ?hQc23 (Or.inl ⟨?hwc23, ?hyc23⟩) (by assumption) ?hrc23
              case hic23 => (simp only [List.getElem?_toArray, List.getElem?_cons_succ, List.getElem?_cons_zero]; first | done | rfl)
              case hwc23 => rfl
              case hyc23 => (intro w9 hSw; (try dsimp only at hSw); go_simp; try with_reducible rfl)
              case hQc23 => exact fun _ _ _ h => h
              try simp only [Act.put, List.setIfInBounds_toArray, List.set_cons_zero, List.set_cons_succ]
              refine wpAnyH_take (i := 24) (oi := ?oic24) (v := ?vc24) ?hic24 (by kernel_rfl) (by kernel_rfl) (by kernel_rfl) ?hQc24 (Or.inl ⟨?hwc24, ?hyc24⟩) (by assumption) ?hrc24
              case hic24 => (simp only [List.getElem?_toArray, List.getElem?_cons_succ, List.getElem?_cons_zero]; first | done | rfl)
              case hwc24 => rfl
              case hyc24 => (intro w9 hSw; (try dsimp only at hSw); go_simp; try with_reducible rfl)
              case hQc24 => exact fun _ _ _ h => h
              try simp only [Act.put, List.setIfInBounds_toArray, List.set_cons_zero, List.set_cons_succ]
              refine wpAnyH_take (i := 25) (oi := ?oic25) (v := ?vc25) ?hic25 (by kernel_rfl) (by kernel_rfl) (by kernel_rfl) ?hQc25 (Or.inl ⟨?hwc25, ?hyc25⟩) (by assumption) ?hrc25
              case hic25 => (simp only [List.getElem?_toArray, List.getElem?_cons_succ, List.getElem?_cons_zero]; first | done | rfl)
              case hwc25 => rfl
              case hyc25 => (intro w9 hSw; (try dsimp only at hSw); go_simp; try with_reducible rfl)
              case hQc25 => exact fun _ _ _ h => h
              try simp only [Act.put, List.setIfInBounds_toArray, List.set_cons_zero, List.set_cons_succ]
              refine wpAnyH_take (i := 26) (oi := ?oic26) (v := ?vc26) ?hic26 (by kernel_rfl) (by kernel_rfl) (by kernel_rfl) ?hQc26 (Or.inl ⟨?hwc26, ?hyc26⟩) (by assumption) ?hrc26
              case hic26 => (simp only [List.getElem?_toArray, List.getElem?_cons_succ, List.getElem?_cons_zero]; first | done | rfl)
              case hwc26 => rfl
              case hyc26 => (intro w9 hSw; (try dsimp only at hSw); go_simp; try with_reducible rfl)
              case hQc26 => exact fun _ _ _ h => h
              try simp only [Act.put, List.setIfInBounds_toArray, List.set_cons_zero, List.set_cons_succ]
              refine wpAnyH_take (i := 27) (oi := ?oic27) (v := ?vc27) ?hic27 (by kernel_rfl) (by kernel_rfl) (by kernel_rfl) ?hQc27 (Or.inl ⟨?hwc27, ?hyc27⟩) (by assumption) ?hrc27
              case hic27 => (simp only [List.getElem?_toArray, List.getElem?_cons_succ, List.getElem?_cons_zero]; first | done | rfl)
              case hwc27 => rfl
              case hyc27 => (intro w9 hSw; (try dsimp only at hSw); go_simp; try with_reducible rfl)
              case hQc27 => exact fun _ _ _ h => h
              try simp only [Act.put, List.setIfInBounds_toArray, List.set_cons_zero, List.set_cons_succ]
              refine wpAnyH_take (i := 28) (oi := ?oic28) (v := ?vc28) ?hic28 (by kernel_rfl) (by kernel_rfl) (by kernel_rfl) ?hQc28 (Or.inl ⟨?hwc28, ?hyc28⟩) (by assumption) ?hrc28
              case hic28 => (simp only [List.getElem?_toArray, List.getElem?_cons_succ, List.getElem?_cons_zero]; first | done | rfl)
              case hwc28 => rfl
              case hyc28 => (intro w9 hSw; (try dsimp only at hSw); go_simp; try with_reducible rfl)
              case hQc28 => exact fun _ _ _ h => h
              try simp only [Act.put, List.setIfInBounds_toArray, List.set_cons_zero, List.set_cons_succ]
              refine wpAnyH_take (i := 29) (oi := ?oic29) (v := ?vc29) ?hic29 (by kernel_rfl) (by kernel_rfl) (by kernel_rfl) ?hQc29 (Or.inl ⟨?hwc29, ?hyc29⟩) (by assumption) ?hrc29
              case hic29 => (simp only [List.getElem?_toArray, List.getElem?_cons_succ, List.getElem?_cons_zero]; first | done | rfl)
              case hwc29 => rfl
              case hyc29 => (intro w9 hSw; (try dsimp only at hSw); go_simp; try with_reducible rfl)
              case hQc29 => exact fun _ _ _ h => h
              try simp only [Act.put, List.setIfInBounds_toArray, List.set_cons_zero, List.set_cons_succ]
              refine wpAnyH_take (i := 30) (oi := ?oic30) (v := ?vc30) ?hic30 (by kernel_rfl) (by kernel_rfl) (by kernel_rfl) ?hQc30 (Or.inl ⟨?hwc30, ?hyc30⟩) (by assumption) ?hrc30
              case hic30 => (simp only [List.getElem?_toArray, List.getElem?_cons_succ, List.getElem?_cons_zero]; first | done | rfl)
              case hwc30 => rfl
              case hyc30 => (intro w9 hSw; (try dsimp only at hSw); go_simp; try with_reducible rfl)
              case hQc30 => exact fun _ _ _ h => h
              try simp only [Act.put, List.setIfInBounds_toArray, List.set_cons_zero, List.set_cons_succ]
              refine wpAnyH_take (i := 31) (oi := ?oic31) (v := ?vc31) ?hic31 (by kernel_rfl) (by kernel_rfl) (by kernel_rfl) ?hQc31 (Or.inl ⟨?hwc31, ?hyc31⟩) (by assumption) ?hrc31
              case hic31 => (simp only [List.getElem?_toArray, List.getElem?_cons_succ, List.getElem?_cons_zero]; first | done | rfl)
              case hwc31 => rfl
              case hyc31 => (intro w9 hSw; (try dsimp only at hSw); go_simp; try with_reducible rfl)
              case hQc31 => exact fun _ _ _ h => h
              try simp only [Act.put, List.setIfInBounds_toArray, List.set_cons_zero, List.set_cons_succ]
              refine wpAnyH_take (i := 32) (oi := ?oic32) (v := ?vc32) ?hic32 (by kernel_rfl) (by kernel_rfl) (by kernel_rfl) ?hQc32 (Or.inl ⟨?hwc32, ?hyc32⟩) (by assumption) ?hrc32
              case hic32 => (simp only [List.getElem?_toArray, List.getElem?_cons_succ, List.getElem?_cons_zero]; first | done | rfl)
              case hwc32 => rfl
              case hyc32 => (intro w9 hSw; (try dsimp only at hSw); go_simp; try with_reducible rfl)
              case hQc32 => exact fun _ _ _ h => h
              try simp only [Act.put, List.setIfInBounds_toArray, List.set_cons_zero, List.set_cons_succ]
              refine wpAnyH_take (i := 33) (oi := ?oic33) (v := ?vc33) ?hic33 (by kernel_rfl) (by kernel_rfl) (by kernel_rfl) ?hQc33 (Or.inl ⟨?hwc33, ?hyc33⟩) (by assumption) ?hrc33
              case hic33 => (simp only [List.getElem?_toArray, List.getElem?_cons_succ, List.getElem?_cons_zero]; first | done | rfl)
              case hwc33 => rfl
              case hyc33 => (intro w9 hSw; (try dsimp only at hSw); go_simp; try with_reducible rfl)
              case hQc33 => exact fun _ _ _ h => h
              try simp only [Act.put, List.setIfInBounds_toArray, List.set_cons_zero, List.set_cons_succ]
              refine wpAnyH_take (i := 34) (oi := ?oic34) (v := ?vc34) ?hic34 (by kernel_rfl) (by kernel_rfl) (by kernel_rfl) ?hQc34 (Or.inl ⟨?hwc34, ?hyc34⟩) (by assumption) ?hrc34
              case hic34 => (simp only [List.getElem?_toArray, List.getElem?_cons_succ, List.getElem?_cons_zero]; first | done | rfl)
              case hwc34 => rfl
              case hyc34 => (intro w9 hSw; (try dsimp only at hSw); go_simp; try with_reducible rfl)
              case hQc34 => exact fun _ _ _ h => h
              try simp only [Act.put, List.setIfInBounds_toArray, List.set_cons_zero, List.set_cons_succ]
              refine wpAnyH_take (i := 35) (oi := ?oic35) (v := ?vc35) ?hic35 (by kernel_rfl) (by kernel_rfl) (by kernel_rfl) ?hQc35 (Or.inl ⟨?hwc35, ?hyc35⟩) (by assumption) ?hrc35
              case hic35 => (simp only [List.getElem?_toArray, List.getElem?_cons_succ, List.getElem?_cons_zero]; first | done | rfl)
              case hwc35 => rfl
              case hyc35 => (intro w9 hSw; (try dsimp only at hSw); go_simp; try with_reducible rfl)
              case hQc35 => exact fun _ _ _ h => h
              try simp only [Act.put, List.setIfInBounds_toArray, List.set_cons_zero, List.set_cons_succ]
              refine wpAnyH_take (i := 36) (oi := ?oic36) (v := ?vc36) ?hic36 (by kernel_rfl) (by kernel_rfl) (by kernel_rfl) ?hQc36 (Or.inl ⟨?hwc36, ?hyc36⟩) (by assumption) ?hrc36
              case hic36 => (simp only [List.getElem?_toArray, List.getElem?_cons_succ, List.getElem?_cons_zero]; first | done | rfl)
              case hwc36 => rfl
              case hyc36 => (intro w9 hSw; (try dsimp only at hSw); go_simp; try with_reducible rfl)
              case hQc36 => exact fun _ _ _ h => h
              try simp only [Act.put, List.setIfInBounds_toArray, List.set_cons_zero, List.set_cons_succ]
              refine wpAnyH_done (by kernel_rfl) ?_ _
              go_wp2
              exact ⟨⟨i + 1, k + 1, by omega, by omega, by simp, by simp, ht.none hS3.2.2.2.2.2, Lib.hid (by rw [hk1.out, hk.out]; simp)⟩, by simp [intOf]; omega⟩
            · replace hk1 := Lib.hid hk1
              go_upto_region 8 with fail
              refine wp_region_held_drew (S := (fun w3 => w3.cell? ⟨g, 4, none⟩ = some (.slice (some ⟨gb, 0, none⟩) n cvs) ∧ w3.cell? ⟨g, 1, none⟩ = some (.int .i64 D) ∧ w3.cell? ⟨gb, i * 3, none⟩ = some (.string xid) ∧ w3.cell? ⟨gb, i * 3 + 1, none⟩ = some (.int .i64 xat) ∧ w3.cell? ⟨gb, i * 3 + 2, none⟩ = some (.bool true) ∧ Touch Nothing wr w3)) (by kernel_rfl) ?_ (fun hHeld => ?_)
              · exact hS.out _ ((Touch.refl _ _).drew)
              refine wpAnyH_take (i := 0) (oi := ?oid0) (v := ?vd0) ?hid0 (by kernel_rfl) (by kernel_rfl) (by kernel_rfl) ?hQd0 (Or.inl ⟨?hwd0, ?hyd0⟩) (by assumption) ?hrd0
              case hid0 => (simp only [List.getElem?_toArray, List.getElem?_cons_succ, List.getElem?_cons_zero]; first | done | rfl)
              case hwd0 => rfl
              case hyd0 => (intro w9 hSw; (try dsimp only at hSw); go_simp; try with_reducible rfl)
              case hQd0 => exact fun _ _ _ h => h
              try simp only [Act.put, List.setIfInBounds_toArray, List.set_cons_zero, List.set_cons_succ]
              refine wpAnyH_take (i := 1) (oi := ?oid1) (v := ?vd1) ?hid1 (by kernel_rfl) (by kernel_rfl) (by kernel_rfl) ?hQd1 (Or.inl ⟨?hwd1, ?hyd1⟩) (by assumption) ?hrd1
              case hid1 => (simp only [List.getElem?_toArray, List.getElem?_cons_succ, List.getElem?_cons_zero]; first | done | rfl)
              case hwd1 => rfl
              case hyd1 => (intro w9 hSw; (try dsimp only at hSw); go_simp; try with_reducible rfl)
              case hQd1 => exact fun _ _ _ h => h
              try simp only [Act.put, List.setIfInBounds_toArray, List.set_cons_zero, List.set_cons_succ]
              refine wpAnyH_take (i := 2) (oi := ?oid2) (v := ?vd2) ?hid2 (by kernel_rfl) (by kernel_rfl) (by kernel_rfl) ?hQd2 (Or.inl ⟨?hwd2, ?hyd2⟩) (by assumption) ?hrd2
              case hid2 => (simp only [List.getElem?_toArray, List.getElem?_cons_succ, List.getElem?_cons_zero]; first | done | rfl)
              case hwd2 => rfl
              case hyd2 => (intro w9 hSw; (try dsimp only at hSw); go_simp; try with_reducible rfl)
              case hQd2 => exact fun _ _ _ h => h
              try simp only [Act.put, List.setIfInBounds_toArray, List.set_cons_zero, List.set_cons_succ]
              refine wpAnyH_take (i := 3) (oi := ?oid3) (v := ?vd3) ?hid3 (by kernel_rfl) (by kernel_rfl) (by kernel_rfl) ?hQd3 (Or.inl ⟨?hwd3, ?hyd3⟩) (by assumption) ?hrd3
              case hid3 => (simp only [List.getElem?_toArray, List.getElem?_cons_succ, List.getElem?_cons_zero]; first | done | rfl)
              case hwd3 => rfl
              case hyd3 => (intro w9 hSw; (try dsimp only at hSw); go_simp; try with_reducible rfl)
              case hQd3 => exact fun _ _ _ h => h
              try simp only [Act.put, List.setIfInBounds_toArray, List.set_cons_zero, List.set_cons_succ]
              refine wpAnyH_take (i := 4) (oi := ?oid4) (v := ?vd4) ?hid4 (by kernel_rfl) (by kernel_rfl) (by kernel_rfl) ?hQd4 (Or.inl ⟨?hwd4, ?hyd4⟩) (by assumption) ?hrd4
              case hid4 => (simp only [List.getElem?_toArray, List.getElem?_cons_succ, List.getElem?_cons_zero]; first | done | rfl)
              case hwd4 => rfl
              case hyd4 => (intro w9 hSw; (try dsimp only at hSw); go_simp; try with_reducible rfl)
              case hQd4 => exact fun _ _ _ h => h
              try simp only [Act.put, List.setIfInBounds_toArray, List.set_cons_zero, List.set_cons_succ]
              refine wpAnyH_take (i := 5) (oi := ?oid5) (v := ?vd5) ?hid5 (by kernel_rfl) (by kernel_rfl) (by kernel_rfl) ?hQd5 (Or.inl ⟨?hwd5, ?hyd5⟩) (by assumption) ?hrd5
              case hid5 => (simp only [List.getElem?_toArray, List.getElem?_cons_succ, List.getElem?_cons_zero]; first | done | rfl)
              case hwd5 => rfl
              case hyd5 => (intro w9 hSw; (try dsimp only at hSw); go_simp; try with_reducible rfl)
              case hQd5 => exact fun _ _ _ h => h
              try simp only [Act.put, List.setIfInBounds_toArray, List.set_cons_zero, List.set_cons_succ]
              refine wpAnyH_take (i := 6) (oi := ?oid6) (v := ?vd6) ?hid6 (by kernel_rfl) (by kernel_rfl) (by kernel_rfl) ?hQd6 (Or.inl ⟨?hwd6, ?hyd6⟩) (by assumption) ?hrd6
              case hid6 => (simp only [List.getElem?_toArray, List.getElem?_cons_succ, List.getElem?_cons_zero]; first | done | rfl)
              case hwd6 => rfl
              case hyd6 => (intro w9 hSw; (try dsimp only at hSw); go_simp; try with_reducible rfl)
              case hQd6 => exact fun _ _ _ h => h
              try simp only [Act.put, List.setIfInBounds_toArray, List.set_cons_zero, List.set_cons_succ]
              refine wpAnyH_take (i := 7) (oi := ?oid7) (v := ?vd7) ?hid7 (by kernel_rfl) (by kernel_rfl) (by kernel_rfl) ?hQd7 (Or.inl ⟨?hwd7, ?hyd7⟩) (by assumption) ?hrd7
              case hid7 => (simp only [List.getElem?_toArray, List.getElem?_cons_succ, List.getElem?_cons_zero]; first | done | rfl)
              case hwd7 => rfl
              case hyd7 => (intro w9 hSw; (try dsimp only at hSw); go_simp; try with_reducible rfl)
              case hQd7 => exact fun _ _ _ h => h
              try simp only [Act.put, List.setIfInBounds_toArray, List.set_cons_zero, List.set_cons_succ]
              refine wpAnyH_ready (rs := [8]) (by kernel_rfl) (by simp) ?_
              refine AllReadyH.cons (o := ?oid8) ?hid8 (fun K hK => ?hrd8) AllReadyH.nil
              case hid8 => (simp only [List.getElem?_toArray, List.getElem?_cons_succ, List.getElem?_cons_zero]; first | done | rfl)
              go_simp
              go_at_call 31
              refine (hC.out _ (by assumption)).mono ?_
              rintro e w3 ⟨rfl, hS3⟩
              try go_simp
              refine hK.out _ _ hS3 (fun hHeld2 => ?_)
              clear hK K hHeld
              try simp only [Act.put, List.setIfInBounds_toArray, List.set_cons_zero, List.set_cons_succ]
              refine wpAnyH_take (i := 9) (oi := ?oid9) (v := ?vd9) ?hid9 (by kernel_rfl) (by kernel_rfl) (by kernel_rfl) ?hQd9 (Or.inl ⟨?hwd9, ?hyd9⟩) (by assumption) ?hrd9
              case hid9 => (simp only [List.getElem?_toArray, List.getElem?_cons_succ, List.getElem?_cons_zero]; first | done | rfl)
              case hwd9 => rfl
              case hyd9 => (intro w9 hSw; (try dsimp only at hSw); go_simp; try with_reducible rfl)
              case hQd9 => exact fun _ _ _ h => h
              try simp only [Act.put, List.setIfInBounds_toArray, List.set_cons_zero, List.set_cons_succ]
              refine wpAnyH_take (i := 10) (oi := ?oid10) (v := ?vd10) ?hid10 (by kernel_rfl) (by kernel_rfl) (by kernel_rfl) ?hQd10 (Or.inl ⟨?hwd10, ?hyd10⟩) (by assumption) ?hrd10
              case hid10 => (simp only [List.getElem?_toArray, List.getElem?_cons_succ, List.getElem?_cons_zero]; first | done | rfl)
              case hwd10 => rfl
              case hyd10 => (intro w9 hSw; (try dsimp only at hSw); go_simp; try with_reducible rfl)
              case hQd10 => exact fun _ _ _ h => h
              try simp only [Act.put, List.setIfInBounds_toArray, List.set_cons_zero, List.set_cons_succ]
              refine wpAnyH_take (i := 11) (oi := ?oid11) (v := ?vd11) ?hid11 (by kernel_rfl) (by kernel_rfl) (by kernel_rfl) ?hQd11 (Or.inl ⟨?hwd11, ?hyd11⟩) (by assumption) ?hrd11
              case hid11 => (simp only [List.getElem?_toArray, List.getElem?_cons_succ, List.getElem?_cons_zero]; first | done | rfl)
              case hwd11 => rfl
              case hyd11 => (intro w9 hSw; (try dsimp only at hSw); go_simp; try with_reducible rfl)
              case hQd11 => exact fun _ _ _ h => h
              try simp only [Act.put, List.setIfInBounds_toArray, List.set_cons_zero, List.set_cons_succ]
              refine wpAnyH_take (i := 12) (oi := ?oid12) (v := ?vd12) ?hid12 (by kernel_rfl) (by kernel_rfl) (by kernel_rfl) ?hQd12 (Or.inl ⟨?hwd12, ?hyd12⟩) (by assumption) ?hrd12
              case hid12 => (simp only [List.getElem?_toArray, List.getElem?_cons_succ, List.getElem?_cons_zero]; first | done | rfl)
              case hwd12 => rfl
              case hyd12 => (intro w9 hSw; (try dsimp only at hSw); go_simp; try with_reducible rfl)
              case hQd12 => exact fun _ _ _ h => h
              try simp only [Act.put, List.setIfInBounds_toArray, List.set_cons_zero, List.set_cons_succ]
              refine wpAnyH_take (i := 13) (oi := ?oid13) (v := ?vd13) ?hid13 (by kernel_rfl) (by kernel_rfl) (by kernel_rfl) ?hQd13 (Or.inl ⟨?hwd13, ?hyd13⟩) (by assumption) ?hrd13
              case hid13 => (simp only [List.getElem?_toArray, List.getElem?_cons_succ, List.getElem?_cons_zero]; first | done | rfl)
              case hwd13 => rfl
              case hyd13 => (intro w9 hSw; (try dsimp only at hSw); go_simp; try with_reducible rfl)
              case hQd13 => exact fun _ _ _ h => h
              try simp only [Act.put, List.setIfInBounds_toArray, List.set_cons_zero, List.set_cons_succ]
              refine wpAnyH_take (i := 14) (oi := ?oid14) (v := ?vd14) ?hid14 (by kernel_rfl) (by kernel_rfl) (by kernel_rfl) ?hQd14 (Or.inl ⟨?hwd14, ?hyd14⟩) (by assumption) ?hrd14
              case hid14 => (simp only [List.getElem?_toArray, List.getElem?_cons_succ, List.getElem?_cons_zero]; first | done | rfl)
              case hwd14 => rfl
              case hyd14 => (intro w9 hSw; (try dsimp only at hSw); go_simp; try with_reducible rfl)
              case hQd14 => exact fun _ _ _ h => h
              try simp only [Act.put, List.setIfInBounds_toArray, List.set_cons_zero, List.set_cons_succ]
              refine wpAnyH_take (i := 15) (oi := ?oid15) (v := ?vd15) ?hid15 (by kernel_rfl) (by kernel_rfl) (by kernel_rfl) ?hQd15 (Or.inl ⟨?hwd15, ?hyd15⟩) (by assumption) ?hrd15
              case hid15 => (simp only [List.getElem?_toArray, List.getElem?_cons_succ, List.getElem?_cons_zero]; first | done | rfl)
              case hwd15 => rfl
              case hyd15 => (intro w9 hSw; (try dsimp only at hSw); go_simp; try with_reducible rfl)
              case hQd15 => exact fun _ _ _ h => h
              try simp only [Act.put, List.setIfInBounds_toArray, List.set_cons_zero, List.set_cons_succ]
              refine wpAnyH_take (i := 16) (oi := ?oid16) (v := ?vd16) ?hid16 (by kernel_rfl) (by kernel_rfl) (by kernel_rfl) ?hQd16 (Or.inl ⟨?hwd16, ?hyd16⟩) (by assumption) ?hrd16
              case hid16 => (simp only [List.getElem?_toArray, List.getElem?_cons_succ, List.getElem?_cons_zero]; first | done | rfl)
              case hwd16 => rfl
              case hyd16 => (intro w9 hSw; (try dsimp only at hSw); go_simp; try with_reducible rfl)
              case hQd16 => exact fun _ _ _ h => h
              try simp only [Act.put, List.setIfInBounds_toArray, List.set_cons_zero, List.set_cons_succ]
              refine wpAnyH_take (i := 17) (oi := ?oid17) (v := ?vd17) ?hid17 (by kernel_rfl) (by kernel_rfl) (by kernel_rfl) ?hQd17 (Or.inl ⟨?hwd17, ?hyd17⟩) (by assumption) ?hrd17
              case hid17 => (simp only [List.getElem?_toArray, List.getElem?_cons_succ, List.getElem?_cons_zero]; first | done | rfl)
              case hwd17 => rfl
              case hyd17 => (intro w9 hSw; (try dsimp only at hSw); go_simp; try with_reducible rfl)
              case hQd17 => exact fun _ _ _ h => h
              try simp only [Act.put, List.setIfInBounds_toArray, List.set_cons_zero, List.set_cons_succ]
              refine wpAnyH_take (i := 18) (oi := ?oid18) (v := ?vd18) ?hid18 (by kernel_rfl) (by kernel_rfl) (by kernel_rfl) ?hQd18 (Or.inl ⟨?hwd18, ?hyd18⟩) (by assumption) ?hrd18
              case hid18 => (simp only [List.getElem?_toArray, List.getElem?_cons_succ, List.getElem?_cons_zero]; first | done | rfl)
              case hwd18 => rfl
              case hyd18 => (intro w9 hSw; (try dsimp only at hSw); go_simp; try with_reducible rfl)
              case hQd18 => exact fun _ _ _ h => h
              try simp only [Act.put, List.setIfInBounds_toArray, List.set_cons_zero, List.set_cons_succ]
              refine wpAnyH_take (i := 19) (oi := ?oid19) (v := ?vd19) ?hid19 (by kernel_rfl) (by kernel_rfl) (by kernel_rfl) ?hQd19 (Or.inl ⟨?hwd19, ?hyd19⟩) (by assumption) ?hrd19
              case hid19 => (simp only [List.getElem?_toArray, List.getElem?_cons_succ, List.getElem?_cons_zero]; first | done | rfl)
              case hwd19 => rfl
              case hyd19 => (intro w9 hSw; (try dsimp only at hSw); go_simp; try with_reducible rfl)
              case hQd19 => exact fun _ _ _ h => h
              try simp only [Act.put, List.setIfInBounds_toArray, List.set_cons_zero, List.set_cons_succ]
              refine wpAnyH_take (i := 20) (oi := ?oid20) (v := ?vd20) ?hid20 (by kernel_rfl) (by kernel_rfl) (by kernel_rfl) ?hQd20 (Or.inl ⟨?hwd20, ?hyd20⟩) (by assumption) ?hrd20
              case hid20 => (simp only [List.getElem?_toArray, List.getElem?_cons_succ, List.getElem?_cons_zero]; first | done | rfl)
              case hwd20 => rfl
              case hyd20 => (intro w9 hSw; (try dsimp only at hSw); go_simp; try with_reducible rfl)
              case hQd20 => exact fun _ _ _ h => h
              try simp only [Act.put, List.setIfInBounds_toArray, List.set_cons_zero, List.set_cons_succ]
              refine wpAnyH_take (i := 21) (oi := ?oid21) (v := ?vd21) ?hid21 (by kernel_rfl) (by kernel_rfl) (by kernel_rfl) ?hQd21 (Or.inl ⟨?hwd21, ?hyd21⟩) (by assumption) ?hrd21
              case hid21 => (simp only [List.getElem?_toArray, List.getElem?_cons_succ, List.getElem?_cons_zero]; first | done | rfl)
              case hwd21 => rfl
              case hyd21 => (intro w9 hSw; (try dsimp only at hSw); go_simp; try with_reducible rfl)
              case hQd21 => exact fun _ _ _ h => h
              try simp only [Act.put, List.setIfInBounds_toArray, List.set_cons_zero, List.set_cons_succ]
              refine wpAnyH_take (i := 22) (oi := ?oid22) (v := ?vd22) ?hid22 (by kernel_rfl) (by kernel_rfl) (by kernel_rfl) ?hQd22 (Or.inl ⟨?hwd22, ?hyd22⟩) (by assumption) ?hrd22
              case hid22 => (simp only [List.getElem?_toArray, List.getElem?_cons_succ, List.getElem?_cons_zero]; first | done | rfl)
              case hwd22 => rfl
              case hyd22 => (intro w9 hSw; (try dsimp only at hSw); go_simp; try with_reducible rfl)
              case hQd22 => exact fun _ _ _ h => h
              try simp only [Act.put, List.setIfInBounds_toArray, List.set_cons_zero, List.set_cons_succ]
              refine wpAnyH_take (i := 23) (oi := ?oid23) (v := ?vd23) ?hid23 (by kernel_rfl) (by kernel_rfl) (by kernel_rfl) ?hQd23 (Or.inl ⟨?hwd23, ?hyd23⟩) (by assumption) ?hrd23
              case hid23 => (simp only [List.getElem?_toArray, List.getElem?_cons_succ, List.getElem?_cons_zero]; first | done | rfl)
              case hwd23 => rfl
              case hyd23 => (intro w9 hSw; (try dsimp only at hSw); go_simp; try with_reducible rfl)
              case hQd23 => exact fun _ _ _ h => h
              try simp only [Act.put, List.setIfInBounds_toArray, List.set_cons_zero, List.set_cons_succ]
              refine wpAnyH_take (i := 24) (oi := ?oid24) (v := ?vd24) ?hid24 (by kernel_rfl) (by kernel_rfl) (by kernel_rfl) ?hQd24 (Or.inl ⟨?hwd24, ?hyd24⟩) (by assumption) ?hrd24
              case hid24 => (simp only [List.getElem?_toArray, List.getElem?_cons_succ, List.getElem?_cons_zero]; first | done | rfl)
              case hwd24 => rfl
              case hyd24 => (intro w9 hSw; (try dsimp only at hSw); go_simp; try with_reducible rfl)
              case hQd24 => exact fun _ _ _ h => h
              try simp only [Act.put, List.setIfInBounds_toArray, List.set_cons_zero, List.set_cons_succ]
              refine wpAnyH_take (i := 25) (oi := ?oid25) (v := ?vd25) ?hid25 (by kernel_rfl) (by kernel_rfl) (by kernel_rfl) ?hQd25 (Or.inl ⟨?hwd25, ?hyd25⟩) (by assumption) ?hrd25
              case hid25 => (simp only [List.getElem?_toArray, List.getElem?_cons_succ, List.getElem?_cons_zero]; first | done | rfl)
              case hwd25 => rfl
              case hyd25 => (intro w9 hSw; (try dsimp only at hSw); go_simp; try with_reducible rfl)
              case hQd25 => exact fun _ _ _ h => h
              try simp only [Act.put, List.setIfInBounds_toArray, List.set_cons_zero, List.set_cons_succ]
              refine wpAnyH_take (i := 26) (oi := ?oid26) (v := ?vd26) ?hid26 (by kernel_rfl) (by kernel_rfl) (by kernel_rfl) ?hQd26 (Or.inl ⟨?hwd26, ?hyd26⟩) (by assumption) ?hrd26
              case hid26 => (simp only [List.getElem?_toArray, List.getElem?_cons_succ, List.getElem?_cons_zero]; first | done | rfl)
              case hwd26 => rfl
              case hyd26 => (intro w9 hSw; (try dsimp only at hSw); go_simp; try with_reducible rfl)
              case hQd26 => exact fun _ _ _ h => h
              try simp only [Act.put, List.setIfInBounds_toArray, List.set_cons_zero, List.set_cons_succ]
              refine wpAnyH_take (i := 27) (oi := ?oid27) (v := ?vd27) ?hid27 (by kernel_rfl) (by kernel_rfl) (by kernel_rfl) ?hQd27 (Or.inl ⟨?hwd27, ?hyd27⟩) (by assumption) ?hrd27
              case hid27 => (simp only [List.getElem?_toArray, List.getElem?_cons_succ, List.getElem?_cons_zero]; first | done | rfl)
              case hwd27 => rfl
              case hyd27 => (intro w9 hSw; (try dsimp only at hSw); go_simp; try with_reducible rfl)
              case hQd27 => exact fun _ _ _ h => h
              try simp only [Act.put, List.setIfInBounds_toArray, List.set_cons_zero, List.set_cons_succ]
              refine wpAnyH_take (i := 28) (oi := ?oid28) (v := ?vd28) ?hid28 (by kernel_rfl) (by kernel_rfl) (by kernel_rfl) ?hQd28 (Or.inl ⟨?hwd28, ?hyd28⟩) (by assumption) ?hrd28
              case hid28 => (simp only [List.getElem?_toArray, List.getElem?_cons_succ, List.getElem?_cons_zero]; first | done | rfl)
              case hwd28 => rfl
              case hyd28 => (intro w9 hSw; (try dsimp only at hSw); go_simp; try with_reducible rfl)
              case hQd28 => exact fun _ _ _ h => h
              try simp only [Act.put, List.setIfInBounds_toArray, List.set_cons_zero, List.set_cons_succ]
              refine wpAnyH_take (i := 29) (oi := ?oid29) (v := ?vd29) ?hid29 (by kernel_rfl) (by kernel_rfl) (by kernel_rfl) ?hQd29 (Or.inl ⟨?hwd29, ?hyd29⟩) (by assumption) ?hrd29
              case hid29 => (simp only [List.getElem?_toArray, List.getElem?_cons_succ, List.getElem?_cons_zero]; first | done | rfl)
              case hwd29 => rfl
              case hyd29 => (intro w9 hSw; (try dsimp only at hSw); go_simp; try with_reducible rfl)
              case hQd29 => exact fun _ _ _ h => h
              try simp only [Act.put, List.setIfInBounds_toArray, List.set_cons_zero, List.set_cons_succ]
              refine wpAnyH_take (i := 30) (oi := ?oid30) (v := ?vd30) ?hid30 (by kernel_rfl) (by kernel_rfl) (by kernel_rfl) ?hQd30 (Or.inl ⟨?hwd30, ?hyd30⟩) (by assumption) ?hrd30
              case hid30 => (simp only [List.getElem?_toArray, List.getElem?_cons_succ, List.getElem?_cons_zero]; first | done | rfl)
              case hwd30 => rfl
              case hyd30 => (intro w9 hSw; (try dsimp only at hSw); go_simp; try with_reducible rfl)
              case hQd30 => exact fun _ _ _ h => h
              try simp only [Act.put, List.setIfInBounds_toArray, List.set_cons_zero, List.set_cons_succ]
              refine wpAnyH_take (i := 31) (oi := ?oid31) (v := ?vd31) ?hid31 (by kernel_rfl) (by kernel_rfl) (by kernel_rfl) ?hQd31 (Or.inl ⟨?hwd31, ?hyd31⟩) (by assumption) ?hrd31
              case hid31 => (simp only [List.getElem?_toArray, List.getElem?_cons_succ, List.getElem?_cons_zero]; first | done | rfl)
              case hwd31 => rfl
              case hyd31 => (intro w9 hSw; (try dsimp only at hSw); go_simp; try with_reducible rfl)
              case hQd31 => exact fun _ _ _ h => h
              try simp only [Act.put, List.setIfInBounds_toArray, List.set_cons_zero, List.set_cons_succ]
              refine wpAnyH_take (i := 32) (oi := ?oid32) (v := ?vd32) ?hid32 (by kernel_rfl) (by kernel_rfl) (by kernel_rfl) ?hQd32 (Or.inl ⟨?hwd32, ?hyd32⟩) (by assumption) ?hrd32
              case hid32 => (simp only [List.getElem?_toArray, List.getElem?_cons_succ, List.getElem?_cons_zero]; first | done | rfl)
              case hwd32 => rfl
              case hyd32 => (intro w9 hSw; (try dsimp only at hSw); go_simp; try with_reducible rfl)
              case hQd32 => exact fun _ _ _ h => h
              try simp only [Act.put, List.setIfInBounds_toArray, List.set_cons_zero, List.set_cons_succ]
              refine wpAnyH_take (i := 33) (oi := ?oid33) (v := ?vd33) ?hid33 (by kernel_rfl) (by kernel_rfl) (by kernel_rfl) ?hQd33 (Or.inl ⟨?hwd33, ?hyd33⟩) (by assumption) ?hrd33
              case hid33 => (simp only [List.getElem?_toArray, List.getElem?_cons_succ, List.getElem?_cons_zero]; first | done | rfl)
              case hwd33 => rfl
              case hyd33 => (intro w9 hSw; (try dsimp only at hSw); go_simp; try with_reducible rfl)
              case hQd33 => exact fun _ _ _ h => h
              try simp only [Act.put, List.setIfInBounds_toArray, List.set_cons_zero, List.set_cons_succ]
              refine wpAnyH_take (i := 34) (oi := ?oid34) (v := ?vd34) ?hid34 (by kernel_rfl) (by kernel_rfl) (by kernel_rfl) ?hQd34 (Or.inl ⟨?hwd34, ?hyd34⟩) (by assumption) ?hrd34
              case hid34 => (simp only [List.getElem?_toArray, List.getElem?_cons_succ, List.getElem?_cons_zero]; first | done | rfl)
              case hwd34 => rfl
              case hyd34 => (intro w9 hSw; (try dsimp only at hSw); go_simp; try with_reducible rfl)
              case hQd34 => exact fun _ _ _ h => h
              try simp only [Act.put, List.setIfInBounds_toArray, List.set_cons_zero, List.set_cons_succ]
              refine wpAnyH_take (i := 35) (oi := ?oid35) (v := ?vd35) ?hid35 (by kernel_rfl) (by kernel_rfl) (by kernel_rfl) ?hQd35 (Or.inl ⟨?hwd35, ?hyd35⟩) (by assumption) ?hrd35
              case hid35 => (simp only [List.getElem?_toArray, List.getElem?_cons_succ, List.getElem?_cons_zero]; first | done | rfl)
              case hwd35 => rfl
              case hyd35 => (intro w9 hSw; (try dsimp only at hSw); go_simp; try with_reducible rfl)
              case hQd35 => exact fun _ _ _ h => h
              try simp only [Act.put, List.setIfInBounds_toArray, List.set_cons_zero, List.set_cons_succ]
              refine wpAnyH_take (i := 36) (oi := ?oid36) (v := ?vd36) ?hid36 (by kernel_rfl) (by kernel_rfl) (by kernel_rfl) ?hQd36 (Or.inl ⟨?hwd36, ?hyd36⟩) (by assumption) ?hrd36
              case hid36 => (simp only [List.getElem?_toArray, List.getElem?_cons_succ, List.getElem?_cons_zero]; first | done | rfl)
              case hwd36 => rfl
              case hyd36 => (intro w9 hSw; (try dsimp only at hSw); go_simp; try with_reducible rfl)
              case hQd36 => exact fun _ _ _ h => h
              try simp only [Act.put, List.setIfInBounds_toArray, List.set_cons_zero, List.set_cons_succ]
              refine wpAnyH_done (by kernel_rfl) ?_ _
              go_wp2
              exact ⟨⟨i + 1, k, by omega, by omega, by simp, by simp, ht.none hS3.2.2.2.2.2, Lib.hid (by rw [hk1.out, hk.out]; simp)⟩, by simp [intOf]; omega⟩
          · rw [decide_eq_false hle, Bool.and_false] at hk1
            replace hk1 := Lib.hid hk1
            go_upto_region 8 with fail
            refine wp_region_held_drew (S := (fun w3 => w3.cell? ⟨g, 4, none⟩ = some (.slice (some ⟨gb, 0, none⟩) n cvs) ∧ w3.cell? ⟨g, 1, none⟩ = some (.int .i64 D) ∧ w3.cell? ⟨gb, i * 3, none⟩ = some (.string xid) ∧ w3.cell? ⟨gb, i * 3 + 1, none⟩ = some (.int .i64 xat) ∧ w3.cell? ⟨gb, i * 3 + 2, none⟩ = some (.bool xc) ∧ Touch Nothing wr w3)) (by kernel_rfl) ?_ (fun hHeld => ?_)
            · exact hS.out _ ((Touch.refl _ _).drew)
            refine wpAnyH_take (i := 0) (oi := ?oie0) (v := ?ve0) ?hie0 (by kernel_rfl) (by kernel_rfl) (by kernel_rfl) ?hQe0 (Or.inl ⟨?hwe0, ?hye0⟩) (by assumption) ?hre0
            case hie0 => (simp only [List.getElem?_toArray, List.getElem?_cons_succ, List.getElem?_cons_zero]; first | done | rfl)
            case hwe0 => rfl
            case hye0 => (intro w9 hSw; (try dsimp only at hSw); go_simp; try with_reducible rfl)
            case hQe0 => exact fun _ _ _ h => h
            try simp only [Act.put, List.setIfInBounds_toArray, List.set_cons_zero, List.set_cons_succ]
            refine wpAnyH_take (i := 1) (oi := ?oie1) (v := ?ve1) ?hie1 (by kernel_rfl) (by kernel_rfl) (by kernel_rfl) ?hQe1 (Or.inl ⟨?hwe1, ?hye1⟩) (by assumption) ?hre1
            case hie1 => (simp only [List.getElem?_toArray, List.getElem?_cons_succ, List.getElem?_cons_zero]; first | done | rfl)
            case hwe1 => rfl
            case hye1 => (intro w9 hSw; (try dsimp only at hSw); go_simp; try with_reducible rfl)
            case hQe1 => exact fun _ _ _ h => h
            try simp only [Act.put, List.setIfInBounds_toArray, List.set_cons_zero, List.set_cons_succ]
            refine wpAnyH_take (i := 2) (oi := ?oie2) (v := ?ve2) ?hie2 (by kernel_rfl) (by kernel_rfl) (by kernel_rfl) ?hQe2 (Or.inl ⟨?hwe2, ?hye2⟩) (by assumption) ?hre2
            case hie2 => (simp only [List.getElem?_toArray, List.getElem?_cons_succ, List.getElem?_cons_zero]; first | done | rfl)
            case hwe2 => rfl
            case hye2 => (intro w9 hSw; (try dsimp only at hSw); go_simp; try with_reducible rfl)
            case hQe2 => exact fun _ _ _ h => h
            try simp only [Act.put, List.setIfInBounds_toArray, List.set_cons_zero, List.set_cons_succ]
            refine wpAnyH_take (i := 3) (oi := ?oie3) (v := ?ve3) ?hie3 (by kernel_rfl) (by kernel_rfl) (by kernel_rfl) ?hQe3 (Or.inl ⟨?hwe3, ?hye3⟩) (by assumption) ?hre3
            case hie3 => (simp only [List.getElem?_toArray, List.getElem?_cons_succ, List.getElem?_cons_zero]; first | done | rfl)
            case hwe3 => rfl
            case hye3 => (intro w9 hSw; (try dsimp only at hSw); go_simp; try with_reducible rfl)
            case hQe3 => exact fun _ _ _ h => h
            try simp only [Act.put, List.setIfInBounds_toArray, List.set_cons_zero, List.set_cons_succ]
            refine wpAnyH_take (i := 4) (oi := ?oie4) (v := ?ve4) ?hie4 (by kernel_rfl) (by kernel_rfl) (by kernel_rfl) ?hQe4 (Or.inl ⟨?hwe4, ?hye4⟩) (by assumption) ?hre4
            case hie4 => (simp only [List.getElem?_toArray, List.getElem?_cons_succ, List.getElem?_cons_zero]; first | done | rfl)
            case hwe4 => rfl
            case hye4 => (intro w9 hSw; (try dsimp only at hSw); go_simp; try with_reducible rfl)
            case hQe4 => exact fun _ _ _ h => h
            try simp only [Act.put, List.setIfInBounds_toArray, List.set_cons_zero, List.set_cons_succ]
            refine wpAnyH_take (i := 5) (oi := ?oie5) (v := ?ve5) ?hie5 (by kernel_rfl) (by kernel_rfl) (by kernel_rfl) ?hQe5 (Or.inl ⟨?hwe5, ?hye5⟩) (by assumption) ?hre5
            case hie5 => (simp only [List.getElem?_toArray, List.getElem?_cons_succ, List.getElem?_cons_zero]; first | done | rfl)
            case hwe5 => rfl
            case hye5 => (intro w9 hSw; (try dsimp only at hSw); go_simp; try with_reducible rfl)
            case hQe5 => exact fun _ _ _ h => h
            try simp only [Act.put, List.setIfInBounds_toArray, List.set_cons_zero, List.set_cons_succ]
            refine wpAnyH_take (i := 6) (oi := ?oie6) (v := ?ve6) ?hie6 (by kernel_rfl) (by kernel_rfl) (by kernel_rfl) ?hQe6 (Or.inl ⟨?hwe6, ?hye6⟩) (by assumption) ?hre6
            case hie6 => (simp only [List.getElem?_toArray, List.getElem?_cons_succ, List.getElem?_cons_zero]; first | done | rfl)
            case hwe6 => rfl
            case hye6 => (intro w9 hSw; (try dsimp only at hSw); go_simp; try with_reducible rfl)
            case hQe6 => exact fun _ _ _ h => h
            try simp only [Act.put, List.setIfInBounds_toArray, List.set_cons_zero, List.set_cons_succ]
            refine wpAnyH_take (i := 7) (oi := ?oie7) (v := ?ve7) ?hie7 (by kernel_rfl) (by kernel_rfl) (by kernel_rfl) ?hQe7 (Or.inl ⟨?hwe7, ?hye7⟩) (by assumption) ?hre7
            case hie7 => (simp only [List.getElem?_toArray, List.getElem?_cons_succ, List.getElem?_cons_zero]; first | done | rfl)
            case hwe7 => rfl
            case hye7 => (intro w9 hSw; (try dsimp only at hSw); go_simp; try with_reducible rfl)
            case hQe7 => exact fun _ _ _ h => h
            try simp only [Act.put, List.setIfInBounds_toArray, List.set_cons_zero, List.set_cons_succ]
            refine wpAnyH_ready (rs := [8]) (by kernel_rfl) (by simp) ?_
            refine AllReadyH.cons (o := ?oie8) ?hie8 (fun K hK => ?hre8) AllReadyH.nil
            case hie8 => (simp only [List.getElem?_toArray, List.getElem?_cons_succ, List.getElem?_cons_zero]; first | done | rfl)
            go_simp
            go_at_call 31
            refine (hC.out _ (by assumption)).mono ?_
            rintro e w3 ⟨rfl, hS3⟩
            try go_simp
            refine hK.out _ _ hS3 (fun hHeld2 => ?_)
            clear hK K hHeld
            try simp only [Act.put, List.setIfInBounds_toArray, List.set_cons_zero, List.set_cons_succ]
            refine wpAnyH_take (i := 9) (oi := ?oie9) (v := ?ve9) ?hie9 (by kernel_rfl) (by kernel_rfl) (by kernel_rfl) ?hQe9 (Or.inl ⟨?hwe9, ?hye9⟩) (by assumption) ?hre9
            case hie9 => (simp only [List.getElem?_toArray, List.getElem?_cons_succ, List.getElem?_cons_zero]; first | done | rfl)
            case hwe9 => rfl
            case hye9 => (intro w9 hSw; (try dsimp only at hSw); go_simp; try with_reducible rfl)
            case hQe9 => exact fun _ _ _ h => h
            try simp only [Act.put, List.setIfInBounds_toArray, List.set_cons_zero, List.set_cons_succ]
            refine wpAnyH_take (i := 10) (oi := ?oie10) (v := ?ve10) ?hie10 (by kernel_rfl) (by kernel_rfl) (by kernel_rfl) ?hQe10 (Or.inl ⟨?hwe10, ?hye10⟩) (by assumption) ?hre10
            case hie10 => (simp only [List.getElem?_toArray, List.getElem?_cons_succ, List.getElem?_cons_zero]; first | done | rfl)
            case hwe10 => rfl
            case hye10 => (intro w9 hSw; (try dsimp only at hSw); go_simp; try with_reducible rfl)
            case hQe10 => exact fun _ _ _ h => h
            try simp only [Act.put, List.setIfInBounds_toArray, List.set_cons_zero, List.set_cons_succ]
            refine wpAnyH_take (i := 11) (oi := ?oie11) (v := ?ve11) ?hie11 (by kernel_rfl) (by kernel_rfl) (by kernel_rfl) ?hQe11 (Or.inl ⟨?hwe11, ?hye11⟩) (by assumption) ?hre11
            case hie11 => (simp only [List.getElem?_toArray, List.getElem?_cons_succ, List.getElem?_cons_zero]; first | done | rfl)
            case hwe11 => rfl
            case hye11 => (intro w9 hSw; (try dsimp only at hSw); go_simp; try with_reducible rfl)
            case hQe11 => exact fun _ _ _ h => h
            try simp only [Act.put, List.setIfInBounds_toArray, List.set_cons_zero, List.set_cons_succ]
            refine wpAnyH_take (i := 12) (oi := ?oie12) (v := ?ve12) ?hie12 (by kernel_rfl) (by kernel_rfl) (by kernel_rfl) ?hQe12 (Or.inl ⟨?hwe12, ?hye12⟩) (by assumption) ?hre12
            case hie12 => (simp only [List.getElem?_toArray, List.getElem?_cons_succ, List.getElem?_cons_zero]; first | done | rfl)
            case hwe12 => rfl
            case hye12 => (intro w9 hSw; (try dsimp only at hSw); go_simp; try with_reducible rfl)
            case hQe12 => exact fun _ _ _ h => h
            try simp only [Act.put, List.setIfInBounds_toArray, List.set_cons_zero, List.set_cons_succ]
            refine wpAnyH_take (i := 13) (oi := ?oie13) (v := ?ve13) ?hie13 (by kernel_rfl) (by kernel_rfl) (by kernel_rfl) ?hQe13 (Or.inl ⟨?hwe13, ?hye13⟩) (by assumption) ?hre13
            case hie13 => (simp only [List.getElem?_toArray, List.getElem?_cons_succ, List.getElem?_cons_zero]; first | done | rfl)
            case hwe13 => rfl
            case hye13 => (intro w9 hSw; (try dsimp only at hSw); go_simp; try with_reducible rfl)
            case hQe13 => exact fun _ _ _ h => h
            try simp only [Act.put, List.setIfInBounds_toArray, List.set_cons_zero, List.set_cons_succ]
            refine wpAnyH_take (i := 14) (oi := ?oie14) (v := ?ve14) ?hie14 (by kernel_rfl) (by kernel_rfl) (by kernel_rfl) ?hQe14 (Or.inl ⟨?hwe14, ?hye14⟩) (by assumption) ?hre14
            case hie14 => (simp only [List.getElem?_toArray, List.getElem?_cons_succ, List.getElem?_cons_zero]; first | done | rfl)
            case hwe14 => rfl
            case hye14 => (intro w9 hSw; (try dsimp only at hSw); go_simp; try with_reducible rfl)
            case hQe14 => exact fun _ _ _ h => h
            try simp only [Act.put, List.setIfInBounds_toArray, List.set_cons_zero, List.set_cons_succ]
            refine wpAnyH_take (i := 15) (oi := ?oie15) (v := ?ve15) ?hie15 (by kernel_rfl) (by kernel_rfl) (by kernel_rfl) ?hQe15 (Or.inl ⟨?hwe15, ?hye15⟩) (by assumption) ?hre15
            case hie15 => (simp only [List.getElem?_toArray, List.getElem?_cons_succ, List.getElem?_cons_zero]; first | done | rfl)
            case hwe15 => rfl
            case hye15 => (intro w9 hSw; (try dsimp only at hSw); go_simp; try with_reducible rfl)
            case hQe15 => exact fun _ _ _ h => h
            try simp only [Act.put, List.setIfInBounds_toArray, List.set_cons_zero, List.set_cons_succ]
            refine wpAnyH_take (i := 16) (oi := ?oie16) (v := ?ve16) ?hie16 (by kernel_rfl) (by kernel_rfl) (by kernel_rfl) ?hQe16 (Or.inl ⟨?hwe16, ?hye16⟩) (by assumption) ?hre16
            case hie16 => (simp only [List.getElem?_toArray, List.getElem?_cons_succ, List.getElem?_cons_zero]; first | done | rfl)
            case hwe16 => rfl
            case hye16 => (intro w9 hSw; (try dsimp only at hSw); go_simp; try with_reducible rfl)
            case hQe16 => exact fun _ _ _ h => h
            try simp only [Act.put, List.setIfInBounds_toArray, List.set_cons_zero, List.set_cons_succ]
            refine wpAnyH_take (i := 17) (oi := ?oie17) (v := ?ve17) ?hie17 (by kernel_rfl) (by kernel_rfl) (by kernel_rfl) ?hQe17 (Or.inl ⟨?hwe17, ?hye17⟩) (by assumption) ?hre17
            case hie17 => (simp only [List.getElem?_toArray, List.getElem?_cons_succ, List.getElem?_cons_zero]; first | done | rfl)
            case hwe17 => rfl
            case hye17 => (intro w9 hSw; (try dsimp only at hSw); go_simp; try with_reducible rfl)
            case hQe17 => exact fun _ _ _ h => h
            try simp only [Act.put, List.setIfInBounds_toArray, List.set_cons_zero, List.set_cons_succ]
            refine wpAnyH_take (i := 18) (oi := ?oie18) (v := ?ve18) ?hie18 (by kernel_rfl) (by kernel_rfl) (by kernel_rfl) ?hQe18 (Or.inl ⟨?hwe18, ?hye18⟩) (by assumption) ?hre18
            case hie18 => (simp only [List.getElem?_toArray, List.getElem?_cons_succ, List.getElem?_cons_zero]; first | done | rfl)
            case hwe18 => rfl
            case hye18 => (intro w9 hSw; (try dsimp only at hSw); go_simp; try with_reducible rfl)
            case hQe18 => exact fun _ _ _ h => h
            try simp only [Act.put, List.setIfInBounds_toArray, List.set_cons_zero, List.set_cons_succ]
            refine wpAnyH_take (i := 19) (oi := ?oie19) (v := ?ve19) ?hie19 (by kernel_rfl) (by kernel_rfl) (by kernel_rfl) ?hQe19 (Or.inl ⟨?hwe19, ?hye19⟩) (by assumption) ?hre19
            case hie19 => (simp only [List.getElem?_toArray, List.getElem?_cons_succ, List.getElem?_cons_zero]; first | done | rfl)
            case hwe19 => rfl
            case hye19 => (intro w9 hSw; (try dsimp only at hSw); go_simp; try with_reducible rfl)
            case hQe19 => exact fun _ _ _ h => h
            try simp only [Act.put, List.setIfInBounds_toArray, List.set_cons_zero, List.set_cons_succ]
            refine wpAnyH_take (i := 20) (oi := ?oie20) (v := ?ve20) ?hie20 (by kernel_rfl) (by kernel_rfl) (by kernel_rfl) ?hQe20 (Or.inl ⟨?hwe20, ?hye20⟩) (by assumption) ?hre20
            case hie20 => (simp only [List.getElem?_toArray, List.getElem?_cons_succ, List.getElem?_cons_zero]; first | done | rfl)
            case hwe20 => rfl
            case hye20 => (intro w9 hSw; (try dsimp only at hSw); go_simp; try with_reducible rfl)
            case hQe20 => exact fun _ _ _ h => h
            try simp only [Act.put, List.setIfInBounds_toArray, List.set_cons_zero, List.set_cons_succ]
            refine wpAnyH_take (i := 21) (oi := ?oie21) (v := ?ve21) ?hie21 (by kernel_rfl) (by kernel_rfl) (by kernel_rfl) ?hQe21 (Or.inl ⟨?hwe21, ?hye21⟩) (by assumption) ?hre21
            case hie21 => (simp only [List.getElem?_toArray, List.getElem?_cons_succ, List.getElem?_cons_zero]; first | done | rfl)
            case hwe21 => rfl
            case hye21 => (intro w9 hSw; (try dsimp only at hSw); go_simp; try with_reducible rfl)
            case hQe21 => exact fun _ _ _ h => h
            try simp only [Act.put, List.setIfInBounds_toArray, List.set_cons_zero, List.set_cons_succ]
            refine wpAnyH_take (i := 22) (oi := ?oie22) (v := ?ve22) ?hie22 (by kernel_rfl) (by kernel_rfl) (by kernel_rfl) ?hQe22 (Or.inl ⟨?hwe22, ?hye22⟩) (by assumption) ?hre22
            case hie22 => (simp only [List.getElem?_toArray, List.getElem?_cons_succ, List.getElem?_cons_zero]; first | done | rfl)
            case hwe22 => rfl
            case hye22 => (intro w9 hSw; (try dsimp only at hSw); go_simp; try with_reducible rfl)
            case hQe22 => exact fun _ _ _ h => h
            try simp only [Act.put, List.setIfInBounds_toArray, List.set_cons_zero, List.set_cons_succ]
            refine wpAnyH_take (i := 23) (oi := ?oie23) (v := ?ve23) ?hie23 (by kernel_rfl) (by kernel_rfl) (by kernel_rfl) ?hQe23 (Or.inl ⟨?hwe23, ?hye23⟩) (by assumption) ?hre23
            case hie23 => (simp only [List.getElem?_toArray, List.getElem?_cons_succ, List.getElem?_cons_zero]; first | done | rfl)
            case hwe23 => rfl
            case hye23 => (intro w9 hSw; (try dsimp only at hSw); go_simp; try with_reducible rfl)
            case hQe23 => exact fun _ _ _ h => h
            try simp only [Act.put, List.setIfInBounds_toArray, List.set_cons_zero, List.set_cons_succ]
            refine wpAnyH_take (i := 24) (oi := ?oie24) (v := ?ve24) ?hie24 (by kernel_rfl) (by kernel_rfl) (by kernel_rfl) ?hQe24 (Or.inl ⟨?hwe24, ?hye24⟩) (by assumption) ?hre24
            case hie24 => (simp only [List.getElem?_toArray, List.getElem?_cons_succ, List.getElem?_cons_zero]; first | done | rfl)
            case hwe24 => rfl
            case hye24 => (intro w9 hSw; (try dsimp only at hSw); go_simp; try with_reducible rfl)
            case hQe24 => exact fun _ _ _ h => h
            try simp only [Act.put, List.setIfInBounds_toArray, List.set_cons_zero, List.set_cons_succ]
            refine wpAnyH_take (i := 25) (oi := ?oie25) (v := ?ve25) ?hie25 (by kernel_rfl) (by kernel_rfl) (by kernel_rfl) ?hQe25 (Or.inl ⟨?hwe25, ?hye25⟩) (by assumption) ?hre25
            case hie25 => (simp only [List.getElem?_toArray, List.getElem?_cons_succ, List.getElem?_cons_zero]; first | done | rfl)
            case hwe25 => rfl
            case hye25 => (intro w9 hSw; (try dsimp only at hSw); go_simp; try with_reducible rfl)
            case hQe25 => exact fun _ _ _ h => h
            try simp only [Act.put, List.setIfInBounds_toArray, List.set_cons_zero, List.set_cons_succ]
            refine wpAnyH_take (i := 26) (oi := ?oie26) (v := ?ve26) ?hie26 (by kernel_rfl) (by kernel_rfl) (by kernel_rfl) ?hQe26 (Or.inl ⟨?hwe26, ?hye26⟩) (by assumption) ?hre26
            case hie26 => (simp only [List.getElem?_toArray, List.getElem?_cons_succ, List.getElem?_cons_zero]; first | done | rfl)
            case hwe26 => rfl
            case hye26 => (intro w9 hSw; (try dsimp only at hSw); go_simp; try with_reducible rfl)
            case hQe26 => exact fun _ _ _ h => h
            try simp only [Act.put, List.setIfInBounds_toArray, List.set_cons_zero, List.set_cons_succ]
            refine wpAnyH_take (i := 27) (oi := ?oie27) (v := undef) ?hie27 (by kernel_rfl) (by kernel_rfl) (by kernel_rfl) ?hQe27 (Or.inr ⟨?hwe27, rfl⟩) (by assumption) ?hre27
            case hie27 => (simp only [List.getElem?_toArray, List.getElem?_cons_succ, List.getElem?_cons_zero]; first | done | rfl)
            case hwe27 => rfl
            case hQe27 => exact fun _ _ _ h => h
            try simp only [Act.put, List.setIfInBounds_toArray, List.set_cons_zero, List.set_cons_succ]
            refine wpAnyH_take (i := 28) (oi := ?oie28) (v := undef) ?hie28 (by kernel_rfl) (by kernel_rfl) (by kernel_rfl) ?hQe28 (Or.inr ⟨?hwe28, rfl⟩) (by assumption) ?hre28
            case hie28 => (simp only [List.getElem?_toArray, List.getElem?_cons_succ, List.getElem?_cons_zero]; first | done | rfl)
            case hwe28 => rfl
            case hQe28 => exact fun _ _ _ h => h
            try simp only [Act.put, List.setIfInBounds_toArray, List.set_cons_zero, List.set_cons_succ]
            refine wpAnyH_take (i := 29) (oi := ?oie29) (v := undef) ?hie29 (by kernel_rfl) (by kernel_rfl) (by kernel_rfl) ?hQe29 (Or.inr ⟨?hwe29, rfl⟩) (by assumption) ?hre29
            case hie29 => (simp only [List.getElem?_toArray, List.getElem?_cons_succ, List.getElem?_cons_zero]; first | done | rfl)
            case hwe29 => rfl
            case hQe29 => exact fun _ _ _ h => h
            try simp only [Act.put, List.setIfInBounds_toArray, List.set_cons_zero, List.set_cons_succ]
            refine wpAnyH_take (i := 30) (oi := ?oie30) (v := undef) ?hie30 (by kernel_rfl) (by kernel_rfl) (by kernel_rfl) ?hQe30 (Or.inr ⟨?hwe30, rfl⟩) (by assumption) ?hre30
            case hie30 => (simp only [List.getElem?_toArray, List.getElem?_cons_succ, List.getElem?_cons_zero]; first | done | rfl)
            case hwe30 => rfl
            case hQe30 => exact fun _ _ _ h => h
            try simp only [Act.put, List.setIfInBounds_toArray, List.set_cons_zero, List.set_cons_succ]
            refine wpAnyH_take (i := 31) (oi := ?oie31) (v := undef) ?hie31 (by kernel_rfl) (by kernel_rfl) (by kernel_rfl) ?hQe31 (Or.inr ⟨?hwe31, rfl⟩) (by assumption) ?hre31
            case hie31 => (simp only [List.getElem?_toArray, List.getElem?_cons_succ, List.getElem?_cons_zero]; first | done | rfl)
            case hwe31 => rfl
            case hQe31 => exact fun _ _ _ h => h
            try simp only [Act.put, List.setIfInBounds_toArray, List.set_cons_zero, List.set_cons_succ]
            refine wpAnyH_take (i := 32) (oi := ?oie32) (v := undef) ?hie32 (by kernel_rfl) (by kernel_rfl) (by kernel_rfl) ?hQe32 (Or.inr ⟨?hwe32, rfl⟩) (by assumption) ?hre32
            case hie32 => (simp only [List.getElem?_toArray, List.getElem?_cons_succ, List.getElem?_cons_zero]; first | done | rfl)
            case hwe32 => rfl
            case hQe32 => exact fun _ _ _ h => h
            try simp only [Act.put, List.setIfInBounds_toArray, List.set_cons_zero, List.set_cons_succ]
            refine wpAnyH_take (i := 33) (oi := ?oie33) (v := undef) ?hie33 (by kernel_rfl) (by kernel_rfl) (by kernel_rfl) ?hQe33 (Or.inr ⟨?hwe33, rfl⟩) (by assumption) ?hre33
            case hie33 => (simp only [List.getElem?_toArray, List.getElem?_cons_succ, List.getElem?_cons_zero]; first | done | rfl)
            case hwe33 => rfl
            case hQe33 => exact fun _ _ _ h => h
            try simp only [Act.put, List.setIfInBounds_toArray, List.set_cons_zero, List.set_cons_succ]
            refine wpAnyH_take (i := 34) (oi := ?oie34) (v := undef) ?hie34 (by kernel_rfl) (by kernel_rfl) (by kernel_rfl) ?hQe34 (Or.inr ⟨?hwe34, rfl⟩) (by assumption) ?hre34
            case hie34 => (simp only [List.getElem?_toArray, List.getElem?_cons_succ, List.getElem?_cons_zero]; first | done | rfl)
            case hwe34 => rfl
            case hQe34 => exact fun _ _ _ h => h
            try simp only [Act.put, List.setIfInBounds_toArray, List.set_cons_zero, List.set_cons_succ]
            refine wpAnyH_take (i := 35) (oi := ?oie35) (v := undef) ?hie35 (by kernel_rfl) (by kernel_rfl) (by kernel_rfl) ?hQe35 (Or.inr ⟨?hwe35, rfl⟩) (by assumption) ?hre35
            case hie35 => (simp only [List.getElem?_toArray, List.getElem?_cons_succ, List.getElem?_cons_zero]; first | done | rfl)
            case hwe35 => rfl
            case hQe35 => exact fun _ _ _ h => h
            try simp only [Act.put, List.setIfInBounds_toArray, List.set_cons_zero, List.set_cons_succ]
            refine wpAnyH_take (i := 36) (oi := ?oie36) (v := ?ve36) ?hie36 (by kernel_rfl) (by kernel_rfl) (by kernel_rfl) ?hQe36 (Or.inl ⟨?hwe36, ?hye36⟩) (by assumption) ?hre36
            case hie36 => (simp only [List.getElem?_toArray, List.getElem?_cons_succ, List.getElem?_cons_zero]; first | done | rfl)
            case hwe36 => rfl
            case hye36 => (intro w9 hSw; (try dsimp only at hSw); go_simp; try with_reducible rfl)
            case hQe36 => exact fun _ _ _ h => h
            try simp only [Act.put, List.setIfInBounds_toArray, List.set_cons_zero, List.set_cons_succ]
            refine wpAnyH_done (by kernel_rfl) ?_ _
            go_wp2
            exact ⟨⟨i + 1, k, by omega, by omega, by simp, by simp, ht.none hS3.2.2.2.2.2, Lib.hid (by rw [hk1.out, hk.out]; simp)⟩, by simp [intOf]; omega⟩
      · go_wp2
        go_ret2
        have : i = m.l.length := by have := hn.out; omega
        subst this
        have e := hk.out
        rw [List.take_length, ← htot.out] at e
        rw [e]
        exact ⟨rfl, RPost.of (hl2.out.nothing ht) (ht2.none ht)⟩
  · rw [if_neg he]
    have hb : (e0 != 0) = true := by simpa using he
    clear hlb
    go_enter Try.func19, Try.ntmps19
    go_wp2_with (go_at_call 28; refine hM.out.mono ?_; rintro e w2 ⟨rfl, hl2, ht2⟩)
    go_ret2
    exact ⟨rfl, RPost.of hl2 ht2⟩

end Go.Proofs.Ytikjcobdddjlbaa
