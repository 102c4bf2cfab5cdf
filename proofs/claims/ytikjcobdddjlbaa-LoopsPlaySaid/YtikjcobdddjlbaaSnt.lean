/-
  Layer 23: Alarm; find; Sent; Back.
-/
import Derived.Test.YtikjcobdddjlbaaCnt
namespace Go.Proofs.Ytikjcobdddjlbaa
open Go.RowKit
set_option linter.unusedVariables false
set_option linter.unusedSimpArgs false

theorem Alarm_any {w : World} {g : Nat} {s : Lg} {sv : Value} (h : Led w g s sv) (t : Int) :
    Calls Try.prog 13 #[.pointer (some ⟨g, 0, none⟩), .int .i64 t] w fun e w' => e = .returned (.tuple #[.bool (decide (s.H < (s.late t).1.1)), .int .i64 (s.late t).1.2]) ∧ LedPost w g sv (s.late t).2 w' := by
  have hL := Late_any h t
  have hH : (s.late t).2.H = s.H := by
    unfold Lg.late Lg.move
    split <;> rename_i he <;> (split at he <;> (try split at he)) <;> cases he <;> rfl
  obtain ⟨⟨⟨n0, e0⟩, s1⟩, hm⟩ : ∃ r, s.late t = r := ⟨_, rfl⟩
  rw [hm] at hL hH ⊢
  simp only [] at hL hH ⊢
  rw [← hH]
  replace hL := Lib.hid hL
  clear hm h hH
  go_enter Try.func13, Try.ntmps13
  go_wp2_with (go_at_call 15; refine hL.out.mono ?_; rintro e w2 ⟨rfl, hp⟩; have hq := hp; obtain ⟨sv2, hl2, hp2, hp3⟩ := hq; have c2 := (cell_blk hl2.blk 2).trans rfl)
  go_ret2
  exact ⟨rfl, hp⟩

theorem str_ne {a b : ByteArray} (h : ¬ a = b) : (a.toList == b.toList) = false := by
  rw [ByteArray.toList_eq, ByteArray.toList_eq]
  refine Bool.eq_false_iff.2 fun e => h ?_
  have := eq_of_beq e
  exact ByteArray.ext (Array.toList_inj.1 this)

/-- Where a loop of that id is. -/
def FindPost (s : Lg) (sv : Value) (id : ByteArray) (e : Ending) : Prop :=
  (e = .returned (.pointer none) ∧ ∀ x ∈ s.l, x.id ≠ id) ∨
  ∃ i, ∃ hi : i < s.l.length, ∃ gb cap, sv = .slice (some ⟨gb, 0, none⟩) s.l.length cap ∧ e = .returned (.pointer (some ⟨gb, i * 3, none⟩)) ∧ s.l[i].id = id ∧ ∀ j (hj : j < i), s.l[j].id ≠ id

theorem find_any {w : World} {g : Nat} {s : Lg} {sv : Value} (h : Led w g s sv) (id : ByteArray) :
    Calls Try.prog 24 #[.pointer (some ⟨g, 0, none⟩), .string id] w fun e w' => w' = w ∧ FindPost s sv id e := by
  obtain ⟨av, cv, rfl⟩ := owns_slice h.own
  have c4 : w.cell? ⟨g, 4, none⟩ = some (.slice av s.l.length cv) := (cell_blk h.blk 4).trans rfl
  have hlen := h.ok.len
  obtain ⟨n, hn⟩ : ∃ n, n = s.l.length := ⟨_, rfl⟩
  rw [← hn] at h c4 hlen ⊢
  replace hn := Lib.hid hn
  replace h := Lib.hid h
  go_enter Try.func24, Try.ntmps24
  go_wp2
  go_loopw [11] (fun iv wr => ∃ i : Nat, i ≤ n ∧ iv = .int .i64 (i : Int) ∧ wr = w ∧ Hid (∀ j (hj : j < s.l.length), j < i → s.l[j].id ≠ id)) (fun iv _ => n - (intOf iv).toNat)
  case atStart => exact ⟨0, Nat.zero_le _, rfl, rfl, Lib.hid fun j _ hj => by omega⟩
  case round =>
    obtain ⟨i, hi, rfl, rfl, hbef⟩ := hrel
    by_cases hin : i < n
    · have hil : i < s.l.length := by have := hn.out; omega
      obtain ⟨gb, cap, hv, ⟨c0, c1, c2⟩, hf⟩ := row_cells h.out.own hil
      cases hv
      obtain ⟨y, hy⟩ : ∃ y, y = s.l[i].id := ⟨_, rfl⟩
      rw [← hy] at c0
      clear c1 c2 hf
      by_cases hyid : y = id
      · subst hyid
        replace hy := Lib.hid hy
        go_wp2
        go_ret
        exact ⟨rfl, .inr ⟨i, hil, gb, cv, rfl, rfl, hy.out.symm, fun j hj => hbef.out j (by omega) hj⟩⟩
      · replace hy := Lib.hid hy
        have hyb := str_ne hyid
        go_wp2
        refine ⟨⟨i + 1, by omega, by simp, trivial, Lib.hid fun j hj hji => ?_⟩, by simp [intOf]; omega⟩
        rcases Nat.lt_or_ge j i with q | q
        · exact hbef.out j hj q
        · obtain rfl : j = i := by omega
          rw [← hy.out]; exact hyid
    · go_wp2
      go_ret
      refine ⟨rfl, .inl ⟨rfl, fun x hx => ?_⟩⟩
      obtain ⟨j, hj, rfl⟩ := List.mem_iff_getElem.1 hx
      exact hbef.out j hj (by have := hn.out; omega)

/-- Is there a loop of that id? -/
def hasB (l : List Lp) (id : ByteArray) : Bool := l.any fun x => decide (x.id = id)

/-- Sent: what it tells, and the ledger behind it. -/
def Lg.sent (s : Lg) (t : Int) (id : ByteArray) : Int × Lg :=
  match s.move t with
  | (e, m) => if e ≠ 0 then (e, m) else if id.size ≠ 16 then (3, m) else if hasB m.l id then (6, m) else if 4096 ≤ m.l.length then (2, m)
    else (0, { m with l := m.l ++ [⟨id, t, false⟩] })

theorem move_now {s m : Lg} {t : Int} (h : s.move t = (0, m)) : m.now = t := by
  unfold Lg.move at h
  split at h
  · simp at h
  · split at h
    · simp at h
    · cases h; rfl

theorem sent_ok {s : Lg} (hs : s.Ok) (t : Int) (id : ByteArray) : (s.sent t id).2.Ok := by
  have hm := Lg.move_ok hs t
  unfold Lg.sent
  obtain ⟨⟨e, m⟩, he⟩ : ∃ r, s.move t = r := ⟨_, rfl⟩
  rw [he] at hm ⊢
  simp only []
  split
  · exact hm
  · rename_i h0
    split
    · exact hm
    · split
      · exact hm
      · split
        · exact hm
        · have h0 : e = 0 := by omega
          subst h0
          have hn := move_now he
          simp only [] at hm
          refine ⟨hm.W, hm.D, hm.H, hm.now, fun x hx => ?_, ?_⟩
          · rcases List.mem_append.1 hx with q | q
            · exact hm.at_ x q
            · have := List.mem_singleton.1 q
              subst this
              have := hm.now
              rw [hn] at this
              exact this
          · simp; omega

theorem LedPost.then {w w1 w' : World} {g : Nat} {sv sv1 : Value} {s' : Lg} (hg : g < w.heap.size) (ht : Touch (fun k => k = g ∨ sv.ownBlock = some k) w w1) (hn : ∀ k, sv1.ownBlock = some k → sv.ownBlock = some k ∨ w.heap.size ≤ k) (h : LedPost w1 g sv1 s' w') : LedPost w g sv s' w' := by
  obtain ⟨sv', h1, h2, h3⟩ := h
  have hsz := ht.size
  refine ⟨sv', h1, ht.trans h2 fun k hk q => ?_, fun k hk => ?_⟩
  · rcases q with q | q
    · exact .inl q
    · rcases hn k q with q2 | q2
      · exact .inr q2
      · omega
  · rcases h3 k hk with q | q
    · exact hn k q
    · exact .inr (by omega)

theorem find_yes {w : World} {g : Nat} {s : Lg} {sv : Value} (h : Led w g s sv) {id : ByteArray} (hh : hasB s.l id = true) :
    Calls Try.prog 24 #[.pointer (some ⟨g, 0, none⟩), .string id] w fun e w' => w' = w ∧ ∃ i, ∃ hi : i < s.l.length, ∃ gb cap, sv = .slice (some ⟨gb, 0, none⟩) s.l.length cap ∧
      e = .returned (.pointer (some ⟨gb, i * 3, none⟩)) ∧ s.l[i].id = id ∧ ∀ j (hj : j < i), s.l[j].id ≠ id := by
  refine (find_any h id).mono fun e w' hp => ⟨hp.1, ?_⟩
  rcases hp.2 with ⟨_, q⟩ | q
  · unfold hasB at hh
    obtain ⟨x, hx, e1⟩ := List.any_eq_true.1 hh
    exact absurd (of_decide_eq_true e1) (q x hx)
  · exact q

theorem find_no {w : World} {g : Nat} {s : Lg} {sv : Value} (h : Led w g s sv) {id : ByteArray} (hh : hasB s.l id = false) :
    Calls Try.prog 24 #[.pointer (some ⟨g, 0, none⟩), .string id] w fun e w' => e = .returned (.pointer none) ∧ w' = w := by
  refine (find_any h id).mono fun e w' hp => ⟨?_, hp.1⟩
  rcases hp.2 with ⟨q, _⟩ | ⟨i, hi, _, _, _, _, q, _⟩
  · exact q
  · have : hasB s.l id = true := List.any_eq_true.2 ⟨_, List.getElem_mem hi, decide_eq_true q⟩
    rw [hh] at this; simp at this

theorem cells_new (w : World) (cs : Array Value) (e : TypeId) (j : Nat) (u : Value) (h : cs.toList[j]? = some u) : (w.alloc (.cells cs e)).cell? ((⟨w.heap.size, 0, none⟩ : Addr).add j) = some u := by
  rw [Addr.add_lit, Nat.zero_add, cell_blk (heap_alloc_new _ _) j]
  simpa using h

theorem lpC_one (x : Lp) : ∀ u ∈ lpC x, u.oneCell' = true := by
  intro u hu
  simp [lpC] at hu
  rcases hu with rfl | rfl | rfl <;> rfl

theorem rowC_snoc (l : List Lp) (x : Lp) : rowC (l ++ [x]) = rowC l ++ lpC x := by simp [rowC]

theorem Led.grown {w w4 : World} {g : Nat} {m : Lg} {sv : Value} {o : Obj} (h : Led w g m sv) (hg : (w.alloc o).grownBy w4 sv.ownBlock) : w4.heap[g]? = some (ledC m sv) := by
  have ht : Touch (fun k => sv.ownBlock = some k) w w4 := ((Touch.refl _ w).alloc o).grown hg fun k _ hk => hk
  exact ht.heap h.blk (fun q => h.ne q)

/-- A ledger behind an append that is stored back. -/
theorem Led.snoc {w w4 : World} {g n : Nat} {m : Lg} {sv v4 : Value} {x : Lp} {o : Obj} (h : Led w g m sv) (hn : n = m.l.length) (hok : Lg.Ok { m with l := m.l ++ [x] }) (ho : w4.ownsRow 0 61 3 v4 (n + 1) (rowC m.l ++ lpC x))
    (hg : (w.alloc o).grownBy w4 sv.ownBlock) (hv : v4.ownBlock = sv.ownBlock ∨ v4.ownBlock = some (w.alloc o).heap.size) : LedPost w g sv { m with l := m.l ++ [x] } (w4.setCell ⟨g, 4, none⟩ v4) := by
  have hlt := lt_of_heap h.blk
  have ht : Touch (fun k => sv.ownBlock = some k) w w4 := ((Touch.refl _ w).alloc o).grown hg fun k _ hk => hk
  have hne : v4.ownBlock ≠ some g := by
    rcases hv with hv | hv <;> rw [hv]
    · exact h.ne
    · intro e
      have := Option.some.inj e
      simp at this; omega
  have hb4 := ht.heap h.blk (fun q => h.ne q)
  have ht4 : Touch (fun k => k = g) w4 (w4.setCell ⟨g, 4, none⟩ v4) := (Touch.refl (fun k => k = g) w4).setCell (p := ⟨g, 4, none⟩) (fun _ => rfl) _
  refine ⟨v4, ⟨heap_setCell_same hb4 4 v4, ?_, hne, hok⟩, (ht.mono fun _ _ q => .inr q).trans ht4 fun _ _ q => .inl q, fun k hk => ?_⟩
  · subst hn
    have := ht4.owns ho (fun k hk q => hne (by rw [← q]; exact hk))
    simpa [rowC_snoc] using this
  · rcases hv with hv | hv <;> rw [hv] at hk
    · exact .inl hk
    · have := Option.some.inj hk
      simp at this; exact .inr (by omega)

set_option maxRecDepth 100000 in
set_option maxHeartbeats 1600000 in
theorem Sent_any {w : World} {g : Nat} {s : Lg} {sv : Value} (h : Led w g s sv) (t : Int) (id : ByteArray) (hid : id.size ≤ 9223372036854775807) :
    Calls Try.prog 10 #[.pointer (some ⟨g, 0, none⟩), .int .i64 t, .string id] w fun e w' => e = .returned (.int .i64 (s.sent t id).1) ∧ LedPost w g sv (s.sent t id).2 w' := by
  have hM := move_any h t
  have hok := sent_ok h.ok t id
  have hg := lt_of_heap h.blk
  unfold Lg.sent at hok ⊢
  obtain ⟨⟨e0, m⟩, hm⟩ : ∃ r, s.move t = r := ⟨_, rfl⟩
  rw [hm] at hM hok ⊢
  simp only [] at hM hok ⊢
  replace hM := Lib.hid hM
  replace hm := Lib.hid hm
  clear h
  by_cases he : e0 = 0
  · subst he
    rw [if_neg (by simp)] at hok ⊢
    by_cases hz : id.size = 16
    · rw [if_neg (by omega)] at hok ⊢
      have hzi : ((id.size : Int) != 16) = false := by simp [hz]
      replace hz := Lib.hid hz
      cases hh : hasB m.l id with
      | true =>
        rw [hh, if_pos rfl] at hok
        rw [if_pos rfl]
        clear hok
        replace hh := Lib.hid hh
        go_enter Try.func10, Try.ntmps10
        go_wp2_with (first
          | (go_at_call 23; refine hM.out.mono ?_; rintro e w2 ⟨rfl, hp⟩; have hq := hp; obtain ⟨sv2, hl2, hp2, hp3⟩ := hq)
          | (go_at_call 24; refine (find_yes hl2 hh.out).mono ?_; rintro e w3 ⟨rfl, i, hi, gb, cap, -, rfl, -⟩))
        go_ret
        exact ⟨rfl, hp⟩
      | false =>
        rw [hh, if_neg (by simp)] at hok
        rw [if_neg (by simp)]
        replace hh := Lib.hid hh
        by_cases hm4 : 4096 ≤ m.l.length
        · rw [if_pos hm4]
          have hm5 : (4096 : Int) ≤ (m.l.length : Int) := by omega
          replace hm4 := Lib.hid hm4
          clear hok
          go_enter Try.func10, Try.ntmps10
          go_wp2_with (first
            | (go_at_call 23; refine hM.out.mono ?_; rintro e w2 ⟨rfl, hp⟩; have hq := hp; obtain ⟨sv2, hl2, hp2, hp3⟩ := hq; obtain ⟨av, cv, rfl⟩ := owns_slice hl2.own; have c4 := (cell_blk hl2.blk 4).trans rfl)
            | (go_at_call 24; refine (find_no hl2 hh.out).mono ?_; rintro e w3 ⟨rfl, rfl⟩))
          go_ret
          exact ⟨rfl, hp⟩
        · rw [if_neg hm4] at hok ⊢
          obtain ⟨n, hn⟩ : ∃ n, n = m.l.length := ⟨_, rfl⟩
          rw [← hn] at hm4
          have hm5 : (n : Int) < 4096 := by omega
          replace hm4 := Lib.hid hm4
          replace hok := Lib.hid hok
          replace hn := Lib.hid hn
          go_enter Try.func10, Try.ntmps10
          go_wp2_with (first
            | (go_at_call 23; refine hM.out.mono ?_; rintro e w2 ⟨rfl, hp⟩; have hq := hp; obtain ⟨sv2, hl2, hp2, hp3⟩ := hq; obtain ⟨av, cv, rfl⟩ := owns_slice hl2.own; rw [← hn.out] at hl2; replace hl2 := Lib.hid hl2; have c4 := (cell_blk hl2.out.blk 4).trans rfl)
            | (go_at_call 24; refine (find_no hl2.out hh.out).mono ?_; rintro e w3 ⟨rfl, rfl⟩)
            | (at_builtin; refine wpList_app loopsE rfl (.tmp 34) (.tmp 38) rfl rfl (hl2.out.own.alloc _) rfl (m := 1) (news := lpC ⟨id, t, false⟩) (.inr ⟨⟨w3.heap.size, 0, none⟩, 1, rfl, rfl, fun j u hu => cells_new _ _ _ j u hu, lpC_one _⟩) rfl rfl (by unfold maxLen; have := hn.out; omega) (by have := hn.out; omega) ?_; intro v4 w4 ho4 hg4 hv4; obtain ⟨av4, cv4, rfl⟩ := owns_slice ho4; have hb4 := hl2.out.grown hg4; have d4 := (cell_blk hb4 4).trans rfl; have f4 := frz_blk hb4 4))
          go_ret
          have hfin := hl2.out.snoc (n := m.l.length) rfl hok.out ho4 hg4 hv4
          rw [hn.out] at hfin
          exact ⟨rfl, LedPost.then hg hp2 hp3 hfin⟩
    · rw [if_pos hz]
      have hzi : ((id.size : Int) != 16) = true := by simp; omega
      replace hz := Lib.hid hz
      clear hok
      go_enter Try.func10, Try.ntmps10
      go_wp2_with (go_at_call 23; refine hM.out.mono ?_; rintro e w2 ⟨rfl, hp⟩)
      go_ret
      exact ⟨rfl, hp⟩
  · rw [if_pos he]
    have hb : (e0 != 0) = true := by simpa using he
    clear hok
    go_enter Try.func10, Try.ntmps10
    go_wp2_with (go_at_call 23; refine hM.out.mono ?_; rintro e w2 ⟨rfl, hp⟩)
    go_ret
    exact ⟨rfl, hp⟩

end Go.Proofs.Ytikjcobdddjlbaa
