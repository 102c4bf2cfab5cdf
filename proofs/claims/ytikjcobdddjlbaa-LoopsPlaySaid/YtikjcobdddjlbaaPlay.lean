/-
  LoopsPlay: the walk.
-/
import Derived.Test.YtikjcobdddjlbaaTwo
import Derived.Test.YtikjcobdddjlbaaActs
namespace Go.Proofs.Ytikjcobdddjlbaa
open Go.RowKit
set_option linter.unusedVariables false
set_option linter.unusedSimpArgs false

/-- The tick that an act names. -/
def tickOf (far : Bool) (a now : Int) : Int := if far = false ∧ a < 2199023255552 ∧ -2199023255552 < a then a + now else a

theorem rlate_more (q : Lg) (t : Int) : (q.rlate t).2.l = q.l ∧ (q.rlate t).2.H = q.H ∧ ((q.rlate t).1.2 ≠ 0 → (q.rlate t).1.1 = 0) := by
  unfold Lg.rlate Lg.rmove
  split <;> rename_i he <;> (split at he <;> (try split at he)) <;> cases he <;> simp

set_option maxRecDepth 100000 in
set_option maxHeartbeats 6400000 in
theorem play_walk (w : World) (p q r : Int) (hp : -9223372036854775808 ≤ p ∧ p ≤ 9223372036854775807) (hq : -9223372036854775808 ≤ q ∧ q ≤ 9223372036854775807) (hr : -9223372036854775808 ≤ r ∧ r ≤ 9223372036854775807)
    (av : Option Addr) (cv : Nat) (ls : List Ac) (hls : ActA w av ls) (hz : ∀ x ∈ ls, x.Ok) (hl : ls.length ≤ 9223372036854775807) :
    Calls Try.prog 6 #[.agg #[.int .i64 p, .int .i64 q, .int .i64 r], .slice av ls.length cv] w fun e w' => e = .returned (.bool true) ∧ Below w.heap.size w w' := by
  replace hls := Lib.hid hls
  replace hz := Lib.hid hz
  obtain ⟨len, hlen⟩ : ∃ len, len = ls.length := ⟨_, rfl⟩
  rw [← hlen] at hl ⊢
  replace hlen := Lib.hid hlen
  have hw0 := (Below.refl w.heap.size w).alloc (Nat.le_refl _) (.cells #[.int .i64 p, .int .i64 q, .int .i64 r] 23)
  by_cases hmay : mayBe p q r
  · have hN := Lib.hid (new_yes (w.alloc (.cells #[.int .i64 p, .int .i64 q, .int .i64 r] 23)) p q r hmay)
    have hR := Lib.hid (rnew_yes ((w.alloc (.cells #[.int .i64 p, .int .i64 q, .int .i64 r] 23)).alloc (ledC (newLg p q r) (.slice none 0 0))) p q r hmay)
    have hF := Lib.hid (Two.first hmay hw0 (by simp) (heap_alloc_new w (.cells #[.int .i64 p, .int .i64 q, .int .i64 r] 23)) rfl)
    replace hmay := Lib.hid hmay
    replace hw0 := Lib.hid hw0
    go_enter Try.func6, Try.ntmps6
    go_upto_region 5 with (first
      | (go_at_call 9; refine hN.out.mono ?_; rintro e w1 ⟨rfl, rfl⟩)
      | (go_at_call 16; refine hR.out.mono ?_; rintro e w2 ⟨rfl, rfl⟩)
      | (go_at_call 7; refine (works_any _).mono ?_; rintro e w3 ⟨rfl, hb3⟩))
    have hd := Lib.hid (hF.out w3 (Touch.ofBelow0 hb3))
    clear hb3 hN hR hF
    have hg0 : (w.alloc (.cells #[.int .i64 p, .int .i64 q, .int .i64 r] 23)).heap.size = w.heap.size + 1 := by simp
    rw [hg0] at hd
    go_wp2
    go_loopw [9] (fun iv wr => ∃ (k X : Nat) (o : Obj) (s q : Lg), k ≤ len ∧ k ≤ 200 ∧ iv = .int .i64 (k : Int) ∧ Sm s q ∧ q.l.length ≤ k ∧ Two w.heap.size (w.heap.size + 1) (w.heap.size + 1 + 1) X o s q w wr) (fun iv _ => 200 - (intOf iv).toNat)
    case atStart => exact ⟨0, _, _, _, _, by omega, by omega, rfl, Sm.first _ _ _, by simp [newLg], hd.out⟩
    case round =>
      clear hd
      obtain ⟨k, X, o, s, q, hk1, hk2, rfl, hsm, hql, hd⟩ := hrel
      have hq := hd.ok
      by_cases hlt : k < len
      · by_cases h200 : k < 200
        · have hkl : k < ls.length := by have := hlen.out; omega
          obtain ⟨ga, oa, rfl, hga, ca, cb, cc, cd⟩ := hls.out k hkl
          have ht0 := Touch.ofBelow hd.hb
          have da := ht0.cell ca (show ¬ w.heap.size ≤ ga by omega)
          have db := ht0.cell cb (show ¬ w.heap.size ≤ ga by omega)
          have dc := ht0.cell cc (show ¬ w.heap.size ≤ ga by omega)
          have dd := ht0.cell cd (show ¬ w.heap.size ≤ ga by omega)
          obtain ⟨x, hx⟩ : ∃ x, x = ls[k] := ⟨_, rfl⟩
          rw [← hx] at da db dc dd
          have hxo : x.Ok := by rw [hx]; exact hz.out _ (List.getElem_mem _)
          obtain ⟨kd, tk, id, fr⟩ := x
          obtain ⟨hkd, htk, hid⟩ := hxo
          simp only [] at da db dc dd hkd htk hid
          obtain ⟨tt, htt⟩ : ∃ tt, tt = tickOf fr tk q.now := ⟨_, rfl⟩
          have hqn := hq.now
          have hd1 := hd.box (.cells #[.int .i64 kd, .int .i64 tk, .string id, .bool fr] 48)
          have t3 := hd1.cells.2
          have aK := fun w2 => among_any w2 kd 4 hkd ⟨by decide, by decide⟩
          obtain ⟨km, hkm⟩ : ∃ km, km = kd % 4 := ⟨_, rfl⟩
          rw [← hkm] at aK
          have hkm4 : km = 0 ∨ km = 1 ∨ km = 2 ∨ km = 3 := by omega
          have f1 : (k : Int) < len := by omega
          have f2 : (k : Int) < 200 := by omega
          clear ca cb cc cd
          replace hkm := Lib.hid hkm
          replace hx := Lib.hid hx
          replace aK := Lib.hid aK
          replace hq := Lib.hid hq
          replace hd1 := Lib.hid hd1
          replace hid := Lib.hid hid
          replace hkm4 := Lib.hid hkm4
          clear hd
          go_upto_region 10 with fail
          obtain ⟨cb, hcb⟩ : ∃ cb, cb = (!fr && decide (tk < 2199023255552) && decide (-2199023255552 < tk)) := ⟨_, rfl⟩
          have hct : tt = if cb then tk + q.now else tk := by
            rw [htt, hcb]; unfold tickOf
            cases fr
            · by_cases q1 : tk < 2199023255552
              · by_cases q2 : -2199023255552 < tk
                · rw [if_pos ⟨rfl, q1, q2⟩, decide_eq_true q1, decide_eq_true q2]; rfl
                · rw [if_neg (fun h => q2 h.2.2), decide_eq_false q2]; simp
              · rw [if_neg (fun h => q1 h.2.1), decide_eq_false q1]; simp
            · rw [if_neg (fun h => by simp at h)]; simp
          have hcw : cb = true → IntKind.i64.wrap (tk + q.now) = tk + q.now := by
            intro h
            rw [hcb] at h
            simp at h
            exact IntWalk.i64_in _ (by omega)
          replace htt := Lib.hid htt
          replace hct := Lib.hid hct
          replace hcw := Lib.hid hcw
          replace hcb := Lib.hid hcb
          go_cut [84] (fun v wx => v = .bool cb ∧ wx = wr.alloc (.cells #[.int .i64 kd, .int .i64 tk, .string id, .bool fr] 48))
          case first =>
            cases fr
            · by_cases q1 : tk < 2199023255552
              · by_cases q2 : -2199023255552 < tk
                · go_wp2_with fail
                  go_meet
                  exact ⟨by rw [hcb.out, decide_eq_true q1, decide_eq_true q2]; rfl, rfl⟩
                · go_wp2_with fail
                  go_meet
                  exact ⟨by rw [hcb.out, decide_eq_true q1, decide_eq_false (by omega)]; rfl, rfl⟩
              · go_wp2_with fail
                go_meet
                exact ⟨by rw [hcb.out, decide_eq_false (by omega)]; rfl, rfl⟩
            · go_wp2_with fail
              go_meet
              exact ⟨by rw [hcb.out]; rfl, rfl⟩
          obtain ⟨rfl, rfl⟩ := hcut
          go_upto_if 84 with fail
          go_cut [11] (fun v wx => v = .int .i64 tt ∧ wx = wr.alloc (.cells #[.int .i64 kd, .int .i64 tk, .string id, .bool fr] 48))
          case first =>
            cases cb
            · go_wp2_with fail
              go_meet
              exact ⟨by rw [hct.out]; rfl, rfl⟩
            · have hcw' := hcw.out rfl
              go_wp2_with fail
              go_meet
              exact ⟨by rw [hct.out]; rfl, rfl⟩
          case rest =>
            obtain ⟨rfl, rfl⟩ := hcut
            replace htt := Lib.hid htt
            clear t3 da db dc dd
            rcases hkm4.out with e0 | e0 | e0 | e0
            · subst e0
              have hs1 := hsm.sent hq.out tt id
              have hs2 := rsent_ok hq.out (show q.l.length < 4096 by omega) tt id
              obtain ⟨⟨e1, q1⟩, hrs⟩ : ∃ z, q.rsent tt id = z := ⟨_, rfl⟩
              have hB := fun w5 (h5 : Two w.heap.size (w.heap.size + 1) (w.heap.size + 1 + 1) wr.heap.size (.cells #[.int .i64 kd, .int .i64 tk, .string id, .bool fr] 48) (s.sent tt id).2 q w w5) => h5.rsent (show q.l.length < 4096 by omega) tt id hid.out
              rw [hrs] at hs1 hs2 hB
              simp only [] at hs1 hs2 hB
              have hA := hd1.out.drew.sent tt id hid.out
              rw [hs1.1] at hA
              obtain ⟨s1, hs1e⟩ : ∃ s1, s1 = (s.sent tt id).2 := ⟨_, rfl⟩
              rw [← hs1e] at hA hB hs1
              have sm1 := hs1.2
              have hln : q1.l.length ≤ k + 1 := by omega
              replace hA := Lib.hid hA
              replace hB := Lib.hid hB
              clear hs1 hs2
              replace hrs := Lib.hid hrs
              replace hs1e := Lib.hid hs1e
              have cx := Lib.hid (fun w5 s5 q5 (h5 : Two w.heap.size (w.heap.size + 1) (w.heap.size + 1 + 1) wr.heap.size (.cells #[.int .i64 kd, .int .i64 tk, .string id, .bool fr] 48) s5 q5 w w5) => (cell_blk h5.hx 2).trans rfl)
              go_upto_region 18 with (go_at_call 8; refine (aK.out _).mono ?_; rintro e w4 ⟨rfl, rfl⟩)
              go_region_held3 (fun w5 => w5.cell? ⟨wr.heap.size, 2, none⟩ = some (.string id))
                (first | assumption | exact cx.out _ _ _ hd1.out.drew)
                (first
                  | (go_at_call 10; refine hA.out.mono ?_; rintro e w5 ⟨rfl, hd2⟩; have c2 := cx.out _ _ _ hd2)
                  | (go_at_call 17; refine (hB.out _ hd2).mono ?_; rintro e w6 ⟨rfl, hd3⟩; have c3 := cx.out _ _ _ hd3))
              have t3 := hd3.cells.2
              have hA := hd3.drew.now
              rw [sm1.now] at hA
              have hO1 := sm1.open
              obtain ⟨cn, hcn⟩ : ∃ cn : Nat, cn = q1.l.countP (ropenP q1) := ⟨_, rfl⟩
              rw [← hcn] at hO1
              have hO := fun w5 (h5 : Two w.heap.size (w.heap.size + 1) (w.heap.size + 1 + 1) wr.heap.size (.cells #[.int .i64 kd, .int .i64 tk, .string id, .bool fr] 48) s1 q1 w w5) => h5.open
              have hP := fun w5 (h5 : Two w.heap.size (w.heap.size + 1) (w.heap.size + 1 + 1) wr.heap.size (.cells #[.int .i64 kd, .int .i64 tk, .string id, .bool fr] 48) s1 q1 w w5) => h5.ropen
              rw [hO1] at hO
              rw [← hcn] at hP
              replace hA := Lib.hid hA
              replace hO := Lib.hid hO
              replace hP := Lib.hid hP
              replace hcn := Lib.hid hcn
              have ct := Lib.hid (fun w5 (h5 : Two w.heap.size (w.heap.size + 1) (w.heap.size + 1 + 1) wr.heap.size (.cells #[.int .i64 kd, .int .i64 tk, .string id, .bool fr] 48) s1 q1 w w5) => h5.cells.2)
              go_upto_region 28 with fail
              go_region_held3 (fun w5 => w5.cell? ⟨w.heap.size + 1 + 1, 3, none⟩ = some (.int .i64 q1.now))
                (first | assumption | exact ct.out _ hd3.drew)
                (first
                  | (go_at_call 20; refine hA.out.mono ?_; rintro e w5 ⟨rfl, rfl⟩; have t4 := ct.out _ hd3.drew)
                  | (go_at_call 14; refine (hO.out _ hd3.drew).mono ?_; rintro e w6 ⟨rfl, hd4⟩; have t5 := ct.out _ hd4)
                  | (go_at_call 21; refine (hP.out _ hd4).mono ?_; rintro e w7 ⟨rfl, hd5⟩; have t6 := ct.out _ hd5))
              go_wp2
              exact ⟨⟨k + 1, wr.heap.size, _, s1, q1, by omega, by omega, by simp, sm1, hln, hd5⟩, by simp [intOf]; omega⟩
            · subst e0
              have hs1 := hsm.back tt id
              have hs2 := rback_ok hq.out tt id
              obtain ⟨⟨e1, q1⟩, hrs⟩ : ∃ z, q.rback tt id = z := ⟨_, rfl⟩
              have hB := fun w5 (h5 : Two w.heap.size (w.heap.size + 1) (w.heap.size + 1 + 1) wr.heap.size (.cells #[.int .i64 kd, .int .i64 tk, .string id, .bool fr] 48) (s.back tt id).2 q w w5) => h5.rback tt id
              rw [hrs] at hs1 hs2 hB
              simp only [] at hs1 hs2 hB
              have hA := hd1.out.drew.back tt id
              rw [hs1.1] at hA
              obtain ⟨s1, hs1e⟩ : ∃ s1, s1 = (s.back tt id).2 := ⟨_, rfl⟩
              rw [← hs1e] at hA hB hs1
              have sm1 := hs1.2
              have hln : q1.l.length ≤ k + 1 := by omega
              replace hA := Lib.hid hA
              replace hB := Lib.hid hB
              clear hs1 hs2
              replace hrs := Lib.hid hrs
              replace hs1e := Lib.hid hs1e
              have cx := Lib.hid (fun w5 s5 q5 (h5 : Two w.heap.size (w.heap.size + 1) (w.heap.size + 1 + 1) wr.heap.size (.cells #[.int .i64 kd, .int .i64 tk, .string id, .bool fr] 48) s5 q5 w w5) => (cell_blk h5.hx 2).trans rfl)
              go_upto_region 21 with (go_at_call 8; refine (aK.out _).mono ?_; rintro e w4 ⟨rfl, rfl⟩)
              go_region_held3 (fun w5 => w5.cell? ⟨wr.heap.size, 2, none⟩ = some (.string id))
                (first | assumption | exact cx.out _ _ _ hd1.out.drew)
                (first
                  | (go_at_call 12; refine hA.out.mono ?_; rintro e w5 ⟨rfl, hd2⟩; have c2 := cx.out _ _ _ hd2)
                  | (go_at_call 18; refine (hB.out _ hd2).mono ?_; rintro e w6 ⟨rfl, hd3⟩; have c3 := cx.out _ _ _ hd3))
              have t3 := hd3.cells.2
              have hA := hd3.drew.now
              rw [sm1.now] at hA
              have hO1 := sm1.open
              obtain ⟨cn, hcn⟩ : ∃ cn : Nat, cn = q1.l.countP (ropenP q1) := ⟨_, rfl⟩
              rw [← hcn] at hO1
              have hO := fun w5 (h5 : Two w.heap.size (w.heap.size + 1) (w.heap.size + 1 + 1) wr.heap.size (.cells #[.int .i64 kd, .int .i64 tk, .string id, .bool fr] 48) s1 q1 w w5) => h5.open
              have hP := fun w5 (h5 : Two w.heap.size (w.heap.size + 1) (w.heap.size + 1 + 1) wr.heap.size (.cells #[.int .i64 kd, .int .i64 tk, .string id, .bool fr] 48) s1 q1 w w5) => h5.ropen
              rw [hO1] at hO
              rw [← hcn] at hP
              replace hA := Lib.hid hA
              replace hO := Lib.hid hO
              replace hP := Lib.hid hP
              replace hcn := Lib.hid hcn
              have ct := Lib.hid (fun w5 (h5 : Two w.heap.size (w.heap.size + 1) (w.heap.size + 1 + 1) wr.heap.size (.cells #[.int .i64 kd, .int .i64 tk, .string id, .bool fr] 48) s1 q1 w w5) => h5.cells.2)
              go_upto_region 28 with fail
              go_region_held3 (fun w5 => w5.cell? ⟨w.heap.size + 1 + 1, 3, none⟩ = some (.int .i64 q1.now))
                (first | assumption | exact ct.out _ hd3.drew)
                (first
                  | (go_at_call 20; refine hA.out.mono ?_; rintro e w5 ⟨rfl, rfl⟩; have t4 := ct.out _ hd3.drew)
                  | (go_at_call 14; refine (hO.out _ hd3.drew).mono ?_; rintro e w6 ⟨rfl, hd4⟩; have t5 := ct.out _ hd4)
                  | (go_at_call 21; refine (hP.out _ hd4).mono ?_; rintro e w7 ⟨rfl, hd5⟩; have t6 := ct.out _ hd5))
              go_wp2
              exact ⟨⟨k + 1, wr.heap.size, _, s1, q1, by omega, by omega, by simp, sm1, hln, hd5⟩, by simp [intOf]; omega⟩
            · subst e0
              have hs1 := hsm.late tt
              have hs2 := rlate_more q tt
              obtain ⟨⟨⟨n1, e1⟩, q1⟩, hrs⟩ : ∃ z, q.rlate tt = z := ⟨_, rfl⟩
              have hB := fun w5 (h5 : Two w.heap.size (w.heap.size + 1) (w.heap.size + 1 + 1) wr.heap.size (.cells #[.int .i64 kd, .int .i64 tk, .string id, .bool fr] 48) (s.late tt).2 q w w5) => h5.rlate tt
              rw [hrs] at hs1 hs2 hB
              simp only [] at hs1 hs2 hB
              have hA := hd1.out.late tt
              rw [hs1.1] at hA
              obtain ⟨s1, hs1e⟩ : ∃ s1, s1 = (s.late tt).2 := ⟨_, rfl⟩
              rw [← hs1e] at hA hB hs1
              have sm1 := hs1.2
              have hln : q1.l.length ≤ k + 1 := by rw [hs2.1]; omega
              replace hA := Lib.hid hA
              replace hB := Lib.hid hB
              clear hs1 hs2
              replace hrs := Lib.hid hrs
              replace hs1e := Lib.hid hs1e
              go_upto_region 28 with (first
                | (go_at_call 8; refine (aK.out _).mono ?_; rintro e w4 ⟨rfl, rfl⟩)
                | (go_at_call 15; refine hA.out.mono ?_; rintro e w5 ⟨rfl, hd2⟩)
                | (go_at_call 19; refine (hB.out _ hd2).mono ?_; rintro e w6 ⟨rfl, hd3⟩))
              have t3 := hd3.cells.2
              have hA := hd3.drew.now
              rw [sm1.now] at hA
              have hO1 := sm1.open
              obtain ⟨cn, hcn⟩ : ∃ cn : Nat, cn = q1.l.countP (ropenP q1) := ⟨_, rfl⟩
              rw [← hcn] at hO1
              have hO := fun w5 (h5 : Two w.heap.size (w.heap.size + 1) (w.heap.size + 1 + 1) wr.heap.size (.cells #[.int .i64 kd, .int .i64 tk, .string id, .bool fr] 48) s1 q1 w w5) => h5.open
              have hP := fun w5 (h5 : Two w.heap.size (w.heap.size + 1) (w.heap.size + 1 + 1) wr.heap.size (.cells #[.int .i64 kd, .int .i64 tk, .string id, .bool fr] 48) s1 q1 w w5) => h5.ropen
              rw [hO1] at hO
              rw [← hcn] at hP
              replace hA := Lib.hid hA
              replace hO := Lib.hid hO
              replace hP := Lib.hid hP
              replace hcn := Lib.hid hcn
              have ct := Lib.hid (fun w5 (h5 : Two w.heap.size (w.heap.size + 1) (w.heap.size + 1 + 1) wr.heap.size (.cells #[.int .i64 kd, .int .i64 tk, .string id, .bool fr] 48) s1 q1 w w5) => h5.cells.2)
              go_upto_region 28 with fail
              go_region_held3 (fun w5 => w5.cell? ⟨w.heap.size + 1 + 1, 3, none⟩ = some (.int .i64 q1.now))
                (first | assumption | exact ct.out _ hd3.drew)
                (first
                  | (go_at_call 20; refine hA.out.mono ?_; rintro e w5 ⟨rfl, rfl⟩; have t4 := ct.out _ hd3.drew)
                  | (go_at_call 14; refine (hO.out _ hd3.drew).mono ?_; rintro e w6 ⟨rfl, hd4⟩; have t5 := ct.out _ hd4)
                  | (go_at_call 21; refine (hP.out _ hd4).mono ?_; rintro e w7 ⟨rfl, hd5⟩; have t6 := ct.out _ hd5))
              go_wp2
              exact ⟨⟨k + 1, wr.heap.size, _, s1, q1, by omega, by omega, by simp, sm1, hln, hd5⟩, by simp [intOf]; omega⟩
            · subst e0
              have hs1 := hsm.late tt
              have hs2 := rlate_more q tt
              obtain ⟨⟨⟨n1, e1⟩, q1⟩, hrs⟩ : ∃ z, q.rlate tt = z := ⟨_, rfl⟩
              have hB := fun w5 (h5 : Two w.heap.size (w.heap.size + 1) (w.heap.size + 1 + 1) wr.heap.size (.cells #[.int .i64 kd, .int .i64 tk, .string id, .bool fr] 48) (s.late tt).2 q w w5) => h5.rlate tt
              rw [hrs] at hs1 hs2 hB
              simp only [] at hs1 hs2 hB
              have hA := hd1.out.alarm tt
              rw [hs1.1, hsm.H] at hA
              obtain ⟨s1, hs1e⟩ : ∃ s1, s1 = (s.late tt).2 := ⟨_, rfl⟩
              rw [← hs1e] at hA hB hs1
              have sm1 := hs1.2
              have hln : q1.l.length ≤ k + 1 := by rw [hs2.1]; omega
              have hq0 := hq.out.H.1
              have ch := fun w5 (h5 : Two w.heap.size (w.heap.size + 1) (w.heap.size + 1 + 1) wr.heap.size (.cells #[.int .i64 kd, .int .i64 tk, .string id, .bool fr] 48) s1 q1 w w5) => h5.cells.1
              rw [hs2.2.1] at ch
              obtain ⟨up, hup⟩ : ∃ up, up = decide (q.H < n1) := ⟨_, rfl⟩
              simp only [] at hA
              rw [← hup] at hA
              have hn0 := hs2.2.2
              replace hA := Lib.hid hA
              replace hB := Lib.hid hB
              replace ch := Lib.hid ch
              clear hs1 hs2
              replace hrs := Lib.hid hrs
              replace hs1e := Lib.hid hs1e
              by_cases he : e1 = 0
              · subst he
                clear hn0
                by_cases hH : q.H < n1
                · have hu : up = true := by rw [hup]; exact decide_eq_true hH
                  subst hu
                  replace hup := Lib.hid hup
                  go_upto_region 28 with (first
                    | (go_at_call 8; refine (aK.out _).mono ?_; rintro e w4 ⟨rfl, rfl⟩)
                    | (go_at_call 13; refine hA.out.mono ?_; rintro e w5 ⟨rfl, hd2⟩)
                    | (go_at_call 19; refine (hB.out _ hd2).mono ?_; rintro e w6 ⟨rfl, hd3⟩; have t2 := ch.out _ hd3))
                  have t3 := hd3.cells.2
                  have hA := hd3.drew.now
                  rw [sm1.now] at hA
                  have hO1 := sm1.open
                  obtain ⟨cn, hcn⟩ : ∃ cn : Nat, cn = q1.l.countP (ropenP q1) := ⟨_, rfl⟩
                  rw [← hcn] at hO1
                  have hO := fun w5 (h5 : Two w.heap.size (w.heap.size + 1) (w.heap.size + 1 + 1) wr.heap.size (.cells #[.int .i64 kd, .int .i64 tk, .string id, .bool fr] 48) s1 q1 w w5) => h5.open
                  have hP := fun w5 (h5 : Two w.heap.size (w.heap.size + 1) (w.heap.size + 1 + 1) wr.heap.size (.cells #[.int .i64 kd, .int .i64 tk, .string id, .bool fr] 48) s1 q1 w w5) => h5.ropen
                  rw [hO1] at hO
                  rw [← hcn] at hP
                  replace hA := Lib.hid hA
                  replace hO := Lib.hid hO
                  replace hP := Lib.hid hP
                  replace hcn := Lib.hid hcn
                  have ct := Lib.hid (fun w5 (h5 : Two w.heap.size (w.heap.size + 1) (w.heap.size + 1 + 1) wr.heap.size (.cells #[.int .i64 kd, .int .i64 tk, .string id, .bool fr] 48) s1 q1 w w5) => h5.cells.2)
                  go_upto_region 28 with fail
                  go_region_held3 (fun w5 => w5.cell? ⟨w.heap.size + 1 + 1, 3, none⟩ = some (.int .i64 q1.now))
                    (first | assumption | exact ct.out _ hd3.drew)
                    (first
                      | (go_at_call 20; refine hA.out.mono ?_; rintro e w5 ⟨rfl, rfl⟩; have t4 := ct.out _ hd3.drew)
                      | (go_at_call 14; refine (hO.out _ hd3.drew).mono ?_; rintro e w6 ⟨rfl, hd4⟩; have t5 := ct.out _ hd4)
                      | (go_at_call 21; refine (hP.out _ hd4).mono ?_; rintro e w7 ⟨rfl, hd5⟩; have t6 := ct.out _ hd5))
                  go_wp2
                  exact ⟨⟨k + 1, wr.heap.size, _, s1, q1, by omega, by omega, by simp, sm1, hln, hd5⟩, by simp [intOf]; omega⟩
                · have hu : up = false := by rw [hup]; exact decide_eq_false hH
                  subst hu
                  replace hup := Lib.hid hup
                  go_upto_region 28 with (first
                    | (go_at_call 8; refine (aK.out _).mono ?_; rintro e w4 ⟨rfl, rfl⟩)
                    | (go_at_call 13; refine hA.out.mono ?_; rintro e w5 ⟨rfl, hd2⟩)
                    | (go_at_call 19; refine (hB.out _ hd2).mono ?_; rintro e w6 ⟨rfl, hd3⟩; have t2 := ch.out _ hd3))
                  have t3 := hd3.cells.2
                  have hA := hd3.drew.now
                  rw [sm1.now] at hA
                  have hO1 := sm1.open
                  obtain ⟨cn, hcn⟩ : ∃ cn : Nat, cn = q1.l.countP (ropenP q1) := ⟨_, rfl⟩
                  rw [← hcn] at hO1
                  have hO := fun w5 (h5 : Two w.heap.size (w.heap.size + 1) (w.heap.size + 1 + 1) wr.heap.size (.cells #[.int .i64 kd, .int .i64 tk, .string id, .bool fr] 48) s1 q1 w w5) => h5.open
                  have hP := fun w5 (h5 : Two w.heap.size (w.heap.size + 1) (w.heap.size + 1 + 1) wr.heap.size (.cells #[.int .i64 kd, .int .i64 tk, .string id, .bool fr] 48) s1 q1 w w5) => h5.ropen
                  rw [hO1] at hO
                  rw [← hcn] at hP
                  replace hA := Lib.hid hA
                  replace hO := Lib.hid hO
                  replace hP := Lib.hid hP
                  replace hcn := Lib.hid hcn
                  have ct := Lib.hid (fun w5 (h5 : Two w.heap.size (w.heap.size + 1) (w.heap.size + 1 + 1) wr.heap.size (.cells #[.int .i64 kd, .int .i64 tk, .string id, .bool fr] 48) s1 q1 w w5) => h5.cells.2)
                  go_upto_region 28 with fail
                  go_region_held3 (fun w5 => w5.cell? ⟨w.heap.size + 1 + 1, 3, none⟩ = some (.int .i64 q1.now))
                    (first | assumption | exact ct.out _ hd3.drew)
                    (first
                      | (go_at_call 20; refine hA.out.mono ?_; rintro e w5 ⟨rfl, rfl⟩; have t4 := ct.out _ hd3.drew)
                      | (go_at_call 14; refine (hO.out _ hd3.drew).mono ?_; rintro e w6 ⟨rfl, hd4⟩; have t5 := ct.out _ hd4)
                      | (go_at_call 21; refine (hP.out _ hd4).mono ?_; rintro e w7 ⟨rfl, hd5⟩; have t6 := ct.out _ hd5))
                  go_wp2
                  exact ⟨⟨k + 1, wr.heap.size, _, s1, q1, by omega, by omega, by simp, sm1, hln, hd5⟩, by simp [intOf]; omega⟩
              · have hn1 := hn0 he
                subst hn1
                have hu : up = false := by rw [hup]; exact decide_eq_false (by omega)
                subst hu
                have heb : (e1 == 0) = false := by simpa using he
                clear hn0
                replace he := Lib.hid he
                replace hup := Lib.hid hup
                go_upto_region 28 with (first
                  | (go_at_call 8; refine (aK.out _).mono ?_; rintro e w4 ⟨rfl, rfl⟩)
                  | (go_at_call 13; refine hA.out.mono ?_; rintro e w5 ⟨rfl, hd2⟩)
                  | (go_at_call 19; refine (hB.out _ hd2).mono ?_; rintro e w6 ⟨rfl, hd3⟩; have t2 := ch.out _ hd3))
                have t3 := hd3.cells.2
                have hA := hd3.drew.now
                rw [sm1.now] at hA
                have hO1 := sm1.open
                obtain ⟨cn, hcn⟩ : ∃ cn : Nat, cn = q1.l.countP (ropenP q1) := ⟨_, rfl⟩
                rw [← hcn] at hO1
                have hO := fun w5 (h5 : Two w.heap.size (w.heap.size + 1) (w.heap.size + 1 + 1) wr.heap.size (.cells #[.int .i64 kd, .int .i64 tk, .string id, .bool fr] 48) s1 q1 w w5) => h5.open
                have hP := fun w5 (h5 : Two w.heap.size (w.heap.size + 1) (w.heap.size + 1 + 1) wr.heap.size (.cells #[.int .i64 kd, .int .i64 tk, .string id, .bool fr] 48) s1 q1 w w5) => h5.ropen
                rw [hO1] at hO
                rw [← hcn] at hP
                replace hA := Lib.hid hA
                replace hO := Lib.hid hO
                replace hP := Lib.hid hP
                replace hcn := Lib.hid hcn
                have ct := Lib.hid (fun w5 (h5 : Two w.heap.size (w.heap.size + 1) (w.heap.size + 1 + 1) wr.heap.size (.cells #[.int .i64 kd, .int .i64 tk, .string id, .bool fr] 48) s1 q1 w w5) => h5.cells.2)
                go_upto_region 28 with fail
                go_region_held3 (fun w5 => w5.cell? ⟨w.heap.size + 1 + 1, 3, none⟩ = some (.int .i64 q1.now))
                  (first | assumption | exact ct.out _ hd3.drew)
                  (first
                    | (go_at_call 20; refine hA.out.mono ?_; rintro e w5 ⟨rfl, rfl⟩; have t4 := ct.out _ hd3.drew)
                    | (go_at_call 14; refine (hO.out _ hd3.drew).mono ?_; rintro e w6 ⟨rfl, hd4⟩; have t5 := ct.out _ hd4)
                    | (go_at_call 21; refine (hP.out _ hd4).mono ?_; rintro e w7 ⟨rfl, hd5⟩; have t6 := ct.out _ hd5))
                go_wp2
                exact ⟨⟨k + 1, wr.heap.size, _, s1, q1, by omega, by omega, by simp, sm1, hln, hd5⟩, by simp [intOf]; omega⟩
        · go_wp2
          go_ret
          exact ⟨rfl, hd.hb⟩
      · go_wp2
        go_ret
        exact ⟨rfl, hd.hb⟩
  · have hN := Lib.hid (new_no (w.alloc (.cells #[.int .i64 p, .int .i64 q, .int .i64 r] 23)) p q r hmay)
    have hR := Lib.hid (rnew_no (w.alloc (.cells #[.int .i64 p, .int .i64 q, .int .i64 r] 23)) p q r hmay)
    replace hmay := Lib.hid hmay
    replace hw0 := Lib.hid hw0
    go_enter Try.func6, Try.ntmps6
    go_upto_region 5 with (first
      | (go_at_call 9; refine hN.out.mono ?_; rintro e w1 ⟨rfl, rfl⟩)
      | (go_at_call 16; refine hR.out.mono ?_; rintro e w2 ⟨rfl, rfl⟩)
      | (go_at_call 7; refine (works_any _).mono ?_; rintro e w3 ⟨rfl, hb3⟩))
    have hfin : Below w.heap.size w w3 := hw0.out.trans (hb3.mono (by simp))
    replace hfin := Lib.hid hfin
    clear hb3 hN hR
    go_wp2
    go_loopw [9] (fun iv wr => iv = .int .i64 0 ∧ wr = w3) (fun iv _ => 0)
    case atStart => exact ⟨rfl, rfl⟩
    case round =>
      obtain ⟨rfl, rfl⟩ := hrel
      go_wp2
      go_ret
      exact ⟨rfl, hfin.out⟩

theorem LoopsPlay_walk (W : World) (p : Int) (hp : -9223372036854775808 ≤ p ∧ p ≤ 9223372036854775807) (q : Int) (hq : -9223372036854775808 ≤ q ∧ q ≤ 9223372036854775807) (r : Int) (hr : -9223372036854775808 ≤ r ∧ r ≤ 9223372036854775807)
    (a : Option Addr) (c : Nat) (ls : List Ac) (e : ActA W a ls) (z : ∀ x ∈ ls, x.Ok) (l : ls.length * 40 ≤ 140737488351232) :
    Calls Try.prog 6 #[.agg #[.int .i64 p, .int .i64 q, .int .i64 r], .slice a ls.length c] W fun e W' => e = .returned (.bool true) ∧ Below W.heap.size W W' :=
  play_walk W p q r hp hq hr a c ls e z (by omega)

end Go.Proofs.Ytikjcobdddjlbaa
