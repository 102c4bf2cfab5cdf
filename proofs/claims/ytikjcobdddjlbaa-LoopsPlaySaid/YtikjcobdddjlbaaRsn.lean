/-
  Layer 23, the document's ledger in a world: New, Sent, Back, Late, Open.
-/
import Derived.Test.YtikjcobdddjlbaaRlp
import Derived.Deep.RegionHeld3
namespace Go.Proofs.Ytikjcobdddjlbaa
open Go.RowKit
set_option linter.unusedVariables false
set_option linter.unusedSimpArgs false

theorem rnew_yes (w : World) (W D H : Int) (h : mayBe W D H) : Calls Try.prog 16 #[.int .i64 W, .int .i64 D, .int .i64 H] w fun e w' =>
    e = .returned (.tuple #[.pointer (some ⟨w.heap.size, 0, none⟩), .int .i64 0]) ∧ w' = w.alloc (rledC (newLg W D H) (.slice none 0 0)) := by
  obtain ⟨⟨h1, h2⟩, ⟨h3, h4⟩, h5, h6⟩ := h
  go_enter Try.func16, Try.ntmps16
  go_wp2
  go_ret2
  exact ⟨rfl, rfl⟩

theorem rnew_no (w : World) (W D H : Int) (h : ¬ mayBe W D H) : Calls Try.prog 16 #[.int .i64 W, .int .i64 D, .int .i64 H] w fun e w' =>
    e = .returned (.tuple #[.pointer none, .int .i64 1]) ∧ w' = w := by
  unfold mayBe at h
  by_cases h1 : W < 1
  · clear h
    go_enter Try.func16, Try.ntmps16
    go_wp2
    go_ret2
    exact ⟨rfl, rfl⟩
  by_cases h2 : W > 1048576
  · clear h
    go_enter Try.func16, Try.ntmps16
    go_wp2
    go_ret2
    exact ⟨rfl, rfl⟩
  by_cases h3 : D < 1
  · clear h
    go_enter Try.func16, Try.ntmps16
    go_wp2
    go_ret2
    exact ⟨rfl, rfl⟩
  by_cases h4 : D > 1048576
  · clear h
    go_enter Try.func16, Try.ntmps16
    go_wp2
    go_ret2
    exact ⟨rfl, rfl⟩
  by_cases h5 : H < 0
  · clear h
    go_enter Try.func16, Try.ntmps16
    go_wp2
    go_ret2
    exact ⟨rfl, rfl⟩
  · have h6 : H > 4096 := by omega
    clear h
    go_enter Try.func16, Try.ntmps16
    go_wp2
    go_ret2
    exact ⟨rfl, rfl⟩

theorem RLed.nothing {w w' : World} {g : Nat} {s : Lg} {sv : Value} (h : RLed w g s sv) (ht : Touch Nothing w w') : RLed w' g s sv := h.touch ht (fun q => q) (fun _ _ q => q)

theorem RPost.of {w w' : World} {g : Nat} {s' : Lg} {sv : Value} (h : RLed w' g s' sv) (ht : Touch (fun k => k = g) w w') : RPost w g sv s' w' :=
  ⟨sv, h, ht.mono fun _ _ q => .inl q, fun _ hk => .inl hk⟩

theorem rhas_iff (q : Lg) (id : ByteArray) : rhas q id = true ↔ ∃ x ∈ q.l, x.id = id ∧ kn q x = true := by
  unfold rhas
  rw [List.any_eq_true]
  simp

theorem rfind_yes {w : World} {g : Nat} {s : Lg} {sv : Value} (h : RLed w g s sv) {id : ByteArray} (hh : rhas s id = true) :
    Calls Try.prog 29 #[.pointer (some ⟨g, 0, none⟩), .string id] w fun e w' => Touch Nothing w w' ∧ ∃ i, ∃ hi : i < s.l.length, e = .returned (.int .i64 (i : Int)) ∧ (s.l[i].id = id ∧ kn s s.l[i] = true) ∧ ∀ j (hj : j < i), ¬ (s.l[j].id = id ∧ kn s s.l[j] = true) := by
  refine (rfind_any h id).mono fun e w' hp => ⟨hp.1, ?_⟩
  rcases hp.2 with ⟨_, hno⟩ | h2
  · obtain ⟨x, hx, q⟩ := (rhas_iff s id).1 hh
    exact absurd q (hno x hx)
  · exact h2

theorem rfind_no {w : World} {g : Nat} {s : Lg} {sv : Value} (h : RLed w g s sv) {id : ByteArray} (hh : rhas s id = false) :
    Calls Try.prog 29 #[.pointer (some ⟨g, 0, none⟩), .string id] w fun e w' => Touch Nothing w w' ∧ e = .returned (.int .i64 (-1)) := by
  refine (rfind_any h id).mono fun e w' hp => ⟨hp.1, ?_⟩
  rcases hp.2 with ⟨he, _⟩ | ⟨i, hi, _, q, _⟩
  · exact he
  · have : rhas s id = true := (rhas_iff s id).2 ⟨s.l[i], List.getElem_mem _, q⟩
    rw [hh] at this; simp at this

theorem rowC_one (l : List Lp) : ∀ u ∈ rowC l, u.oneCell' = true := by
  intro u hu
  obtain ⟨x, hx, hu⟩ := List.mem_flatMap.1 hu
  exact lpC_one x u hu

/-- A copy and one more: what was there is as it was; the new row is new. -/
theorem two_app {w4 w6 w7 : World} {o o2 : Obj} {v0 v6 v7 : Value} (h0 : v0.ownBlock = some w4.heap.size) (hg6 : (w4.alloc o).grownBy w6 v0.ownBlock) (hv6 : v6.ownBlock = v0.ownBlock ∨ v6.ownBlock = some (w4.alloc o).heap.size)
    (hg7 : (w6.alloc o2).grownBy w7 v6.ownBlock) (hv7 : v7.ownBlock = v6.ownBlock ∨ v7.ownBlock = some (w6.alloc o2).heap.size) : Touch Nothing w4 w7 ∧ ∀ k, v7.ownBlock = some k → w4.heap.size ≤ k := by
  have h6 : ∀ k, v6.ownBlock = some k → w4.heap.size ≤ k := by
    intro k hk
    rcases hv6 with q | q
    · rw [q, h0] at hk; have := Option.some.inj hk; omega
    · rw [q] at hk; have := Option.some.inj hk; simp at this; omega
  have t6 : Touch Nothing w4 w6 := ((Touch.refl Nothing w4).alloc o).grown hg6 (fun k hk q => by rw [h0] at q; have := Option.some.inj q; omega)
  have t7 : Touch Nothing w4 w7 := (t6.alloc o2).grown hg7 (fun k hk q => by have := h6 k q; omega)
  refine ⟨t7, fun k hk => ?_⟩
  rcases hv7 with q | q
  · exact h6 k (by rw [← q]; exact hk)
  · have := t6.size
    rw [q] at hk; have := Option.some.inj hk; simp at this; omega

theorem RLed.snoc {w w4 w7 : World} {g n : Nat} {m : Lg} {sv v7 : Value} {x : Lp} (h : RLed w4 g m sv) (hw : Touch (fun k => k = g) w w4) (hg : g < w.heap.size) (hn : n = m.l.length) (hok : Lg.Ok { m with l := m.l ++ [x] }) (ho : w7.ownsRow 0 68 3 v7 (n + 1) (rowC m.l ++ lpC x))
    (ht : Touch Nothing w4 w7) (hv : ∀ k, v7.ownBlock = some k → w4.heap.size ≤ k) : RPost w g sv { m with l := m.l ++ [x] } (w7.setCell ⟨g, 4, none⟩ v7) := by
  have hb7 := ht.heap h.blk (fun q => q)
  have hg4 := lt_of_heap h.blk
  have hne : v7.ownBlock ≠ some g := fun e => by have := hv g e; omega
  have hts : Touch (fun k => k = g) w7 (w7.setCell ⟨g, 4, none⟩ v7) := (Touch.refl (fun k => k = g) w7).setCell (p := ⟨g, 4, none⟩) (fun _ => rfl) _
  refine ⟨v7, ⟨heap_setCell_same hb7 4 v7, ?_, hne, hok⟩, ((hw.none ht).trans' hts).mono (fun _ _ q => .inl q), fun k hk => .inr (by have := hv k hk; have := hw.size; omega)⟩
  subst hn
  have := hts.owns ho (fun k hk q => hne (by rw [← q]; exact hk))
  simpa [rowC_snoc] using this

set_option maxRecDepth 100000 in
set_option maxHeartbeats 1600000 in
theorem rsent_any {w : World} {g : Nat} {s : Lg} {sv : Value} (h : RLed w g s sv) (hl4 : s.l.length < 4096) (t : Int) (id : ByteArray) (hid : id.size ≤ 9223372036854775807) :
    Calls Try.prog 17 #[.pointer (some ⟨g, 0, none⟩), .int .i64 t, .string id] w fun e w' => e = .returned (.int .i64 (s.rsent t id).1) ∧ RPost w g sv (s.rsent t id).2 w' := by
  have hM := rmove_any h t
  have hok := (rsent_ok h.ok hl4 t id).1
  have hg := lt_of_heap h.blk
  have hml := rmove_len s t
  have hso : ∀ k, sv.ownBlock = some k → k ≠ g ∧ k < w.heap.size := fun k hk => ⟨fun q => h.ne (by rw [← q]; exact hk), (h.own.lt k hk).2⟩
  unfold Lg.rsent at hok ⊢
  obtain ⟨⟨e0, m⟩, hm⟩ : ∃ r, s.rmove t = r := ⟨_, rfl⟩
  rw [hm] at hM hok hml ⊢
  simp only [] at hM hok hml ⊢
  replace hM := Lib.hid hM
  replace hm := Lib.hid hm
  replace hso := Lib.hid hso
  have hl5 : m.l.length < 4096 := by rw [hml]; exact hl4
  clear h hl4 hml
  by_cases he : e0 = 0
  · subst he
    rw [if_neg (by simp)] at hok ⊢
    by_cases hz : id.size = 16
    · rw [if_neg (by omega)] at hok ⊢
      have hzi : ((id.size : Int) != 16) = false := by simp [hz]
      replace hz := Lib.hid hz
      cases hh : rhas m id with
      | true =>
        rw [if_pos rfl]
        clear hok
        replace hh := Lib.hid hh
        go_enter Try.func17, Try.ntmps17
        go_wp2_with (first
          | (go_at_call 28; refine hM.out.mono ?_; rintro e w2 ⟨rfl, hl2, ht2⟩)
          | (go_at_call 29; refine (rfind_yes hl2 hh.out).mono ?_; rintro e w3 ⟨ht3, i, hi, rfl, -⟩))
        go_ret
        exact ⟨rfl, RPost.of (hl2.nothing ht3) (ht2.none ht3)⟩
      | false =>
        rw [hh, if_neg (by simp)] at hok
        rw [if_neg (by simp)]
        replace hh := Lib.hid hh
        obtain ⟨mk, hmk⟩ : ∃ mk, mk = m.l.countP (kn m) := ⟨_, rfl⟩
        have hmk2 : mk ≤ m.l.length := by rw [hmk]; exact List.countP_le_length
        have hmk3 : ¬ 4096 ≤ mk := by omega
        rw [← hmk, if_neg hmk3] at hok ⊢
        have hmk4 : (mk : Int) < 4096 := by omega
        have hMa : ∀ {w3 : World}, RLed w3 g m sv → Calls Try.prog 30 #[.pointer (some ⟨g, 0, none⟩)] w3 fun e w' => e = .returned (.int .i64 (mk : Int)) ∧ Touch Nothing w3 w' := fun h => by rw [hmk]; exact many_any h
        obtain ⟨n, hn⟩ : ∃ n, n = m.l.length := ⟨_, rfl⟩
        rw [← hn] at hmk2 hl5
        replace hmk := Lib.hid hmk
        replace hmk3 := Lib.hid hmk3
        replace hok := Lib.hid hok
        replace hn := Lib.hid hn
        replace hl5 := Lib.hid hl5
        go_enter Try.func17, Try.ntmps17
        go_upto_region 10 with (first
          | (go_at_call 28; refine hM.out.mono ?_; rintro e w2 ⟨rfl, hl2, ht2⟩)
          | (go_at_call 29; refine (rfind_no hl2 hh.out).mono ?_; rintro e w3 ⟨ht3, rfl⟩; have hl3 := hl2.nothing ht3)
          | (go_at_call 30; refine (hMa hl3).mono ?_; rintro e w4 ⟨rfl, ht4⟩; have hl4 := hl3.nothing ht4; have d4 := (cell_blk (hl4.nothing ((Touch.refl _ w4).alloc (.cells #[] 68))).blk 4).trans rfl))
        have ht5 := (ht2.none ht3).none ht4
        have hl5' := hl4.nothing ((Touch.refl _ w4).alloc (.cells #[] 68))
        have hg4 : g < w4.heap.size := lt_of_heap hl4.blk
        obtain ⟨av, cv, rfl⟩ := owns_slice hl4.own
        rw [← hn.out] at d4
        have hsrc := ownsRow_src hl5'.own (rowC_one _)
        rw [← hn.out] at hsrc
        replace hsrc := Lib.hid hsrc
        replace hl5' := Lib.hid hl5'
        replace ht5 := Lib.hid ht5
        have k1 := Lib.hid (show n ≤ maxLen by unfold maxLen; have := hl5.out; omega)
        have k2 := Lib.hid (show n * 32 ≤ 140737488355328 by have := hl5.out; omega)
        have k3 := Lib.hid (show n + 1 ≤ maxLen by unfold maxLen; have := hl5.out; omega)
        have k4 := Lib.hid (show (n + 1) * 32 ≤ 140737488355328 by have := hl5.out; omega)
        replace hl4 := Lib.hid hl4
        clear ht2 ht3 ht4 hl2 hl3
        go_wp2_with (first
          | (at_builtin; refine wpList_app rloopsE rfl (.tmp 25) (.tmp 29) rfl rfl (owns_empty w4 68 3) rfl hsrc.out (Nat.zero_add _) (List.nil_append _) k1.out k2.out ?_
             intro v6 w6 ho6 hg6 hv6; obtain ⟨av6, cv6, rfl⟩ := owns_slice ho6)
          | (at_builtin; refine wpList_app rloopsE rfl (.tmp 30) (.tmp 34) rfl rfl (ho6.alloc _) rfl (m := 1) (news := lpC ⟨id, t, false⟩) (.inr ⟨⟨_, 0, none⟩, 1, rfl, rfl, fun j u hu => cells_new _ _ _ j u hu, lpC_one _⟩) rfl rfl k3.out k4.out ?_
             intro v7 w7 ho7 hg7 hv7; have hta := two_app (v0 := .slice (some ⟨w4.heap.size, 0, none⟩) 0 0) rfl hg6 hv6 hg7 hv7; obtain ⟨av7, cv7, rfl⟩ := owns_slice ho7; have hb7 := hta.1.heap hl4.out.blk (fun q => q); have f7 := frz_blk hb7 4; have d7 := (cell_blk hb7 4).trans rfl; clear hg6 hv6 hg7 hv7 ho6))
        go_ret
        exact ⟨rfl, hl4.out.snoc ht5.out hg hn.out hok.out ho7 hta.1 hta.2⟩
    · rw [if_pos hz]
      have hzi : ((id.size : Int) != 16) = true := by simp; omega
      replace hz := Lib.hid hz
      clear hok
      go_enter Try.func17, Try.ntmps17
      go_wp2_with (go_at_call 28; refine hM.out.mono ?_; rintro e w2 ⟨rfl, hl2, ht2⟩)
      go_ret
      exact ⟨rfl, RPost.of hl2 ht2⟩
  · rw [if_pos he]
    have hb : (e0 != 0) = true := by simpa using he
    clear hok
    go_enter Try.func17, Try.ntmps17
    go_wp2_with (go_at_call 28; refine hM.out.mono ?_; rintro e w2 ⟨rfl, hl2, ht2⟩)
    go_ret
    exact ⟨rfl, RPost.of hl2 ht2⟩

end Go.Proofs.Ytikjcobdddjlbaa
