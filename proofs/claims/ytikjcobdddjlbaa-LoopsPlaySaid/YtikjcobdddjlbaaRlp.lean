/-
  Layer 23, the document's ledger in a world: known, move, at, many, New.
-/
import Derived.Test.YtikjcobdddjlbaaRsm
namespace Go.Proofs.Ytikjcobdddjlbaa
open Go.RowKit
set_option linter.unusedVariables false
set_option linter.unusedSimpArgs false

def rledC (s : Lg) (sv : Value) : Obj := .cells #[.int .i64 s.W, .int .i64 s.D, .int .i64 s.H, .int .i64 s.now, sv] 51

structure RLed (w : World) (g : Nat) (s : Lg) (sv : Value) : Prop where
  blk : w.heap[g]? = some (rledC s sv)
  own : w.ownsRow 0 68 3 sv s.l.length (rowC s.l)
  ne : sv.ownBlock ≠ some g
  ok : s.Ok

def RPost (w : World) (g : Nat) (sv : Value) (s' : Lg) (w' : World) : Prop :=
  ∃ sv', RLed w' g s' sv' ∧ Touch (fun k => k = g ∨ sv.ownBlock = some k) w w' ∧ ∀ k, sv'.ownBlock = some k → sv.ownBlock = some k ∨ w.heap.size ≤ k

theorem RLed.touch {F : Nat → Prop} {w w' : World} {g : Nat} {s : Lg} {sv : Value} (h : RLed w g s sv) (ht : Touch F w w') (hg : ¬ F g) (hs : ∀ k, sv.ownBlock = some k → ¬ F k) : RLed w' g s sv :=
  ⟨ht.heap h.blk hg, ht.owns h.own hs, h.ne, h.ok⟩

theorem RPost.after {w w1 w' : World} {g : Nat} {sv : Value} {s : Lg} (ht : Touch Nothing w1 w') (h : RPost w g sv s w1) : RPost w g sv s w' := by
  obtain ⟨sv', h1, h2, h3⟩ := h
  exact ⟨sv', h1.touch ht (fun q => q) (fun _ _ q => q), h2.none ht, h3⟩

theorem rloopsE : Elt Try.prog 49 68 3 32 := Elt.mk' (z := .agg #[.string ⟨#[]⟩, .int .i64 0, .bool false]) Try.underlying49 (by kernel_rfl) rfl (by decide)

theorem rrow_cells {w : World} {v : Value} {n : Nat} {l : List Lp} (h : w.ownsRow 0 68 3 v n (rowC l)) {i : Nat} (hi : i < l.length) :
    ∃ gb cap, v = .slice (some ⟨gb, 0, none⟩) n cap ∧ (w.cell? ⟨gb, i * 3, none⟩ = some (.string l[i].id) ∧ w.cell? ⟨gb, i * 3 + 1, none⟩ = some (.int .i64 l[i].at_) ∧ w.cell? ⟨gb, i * 3 + 2, none⟩ = some (.bool l[i].came)) ∧
      ∀ o, w.frozen? ⟨gb, o, none⟩ = false := by
  have hl : l.length = n := by have := h.1; rw [rowC_len] at this; omega
  rcases h.2 with ⟨hv, h0⟩ | ⟨g, cap, cur, hv, _, hg, hnc, _, hcs, ht⟩
  · omega
  · have hc := fun k (hk : k < 3) => h.cells (g := g) (by rw [hv]; rfl) (i * 3 + k)
    have q0 := hc 0 (by omega) (.string l[i].id) (by rw [rowC_at l i hi 0 (by omega)]; rfl)
    have q1 := hc 1 (by omega) (.int .i64 l[i].at_) (by rw [rowC_at l i hi 1 (by omega)]; rfl)
    have q2 := hc 2 (by omega) (.bool l[i].came) (by rw [rowC_at l i hi 2 (by omega)]; rfl)
    rw [Addr.add_lit] at q0 q1 q2
    exact ⟨g, cap, hv, ⟨by simpa using q0, by simpa using q1, by simpa using q2⟩, fun o => frozen_blk hg _⟩

theorem known_any (w : World) (g : Nat) (s : Lg) (sv : Value) (hb : w.heap[g]? = some (rledC s sv)) (hs : s.Ok) (x : Lp) :
    Calls Try.prog 31 #[.pointer (some ⟨g, 0, none⟩), lpV x] w fun e w' => e = .returned (.bool (kn s x)) ∧ Touch Nothing w w' := by
  have c0 : ∀ o, (w.alloc o).cell? ⟨g, 0, none⟩ = some (.int .i64 s.W) := fun o => Lib.cell?_alloc_some _ ((cell_blk hb 0).trans rfl)
  have c1 : ∀ o, (w.alloc o).cell? ⟨g, 1, none⟩ = some (.int .i64 s.D) := fun o => Lib.cell?_alloc_some _ ((cell_blk hb 1).trans rfl)
  have c3 : ∀ o, (w.alloc o).cell? ⟨g, 3, none⟩ = some (.int .i64 s.now) := fun o => Lib.cell?_alloc_some _ ((cell_blk hb 3).trans rfl)
  have hg : g ≠ w.heap.size := by have := lt_of_heap hb; omega
  obtain ⟨id, at_, came⟩ := x
  obtain ⟨W, D, H, now, l⟩ := s
  have hW := hs.W
  have hD := hs.D
  have hn := hs.now
  have e0 : kn ⟨W, D, H, now, l⟩ ⟨id, at_, came⟩ = decide (now - W - D < at_) := by
    unfold kn oldAt
    rw [Bool.eq_iff_iff]; simp
  rw [e0]
  unfold lpV
  simp only [] at *
  replace c0 := c0 (.cells #[.string id, .int .i64 at_, .bool came] 68)
  replace c1 := c1 (.cells #[.string id, .int .i64 at_, .bool came] 68)
  replace c3 := c3 (.cells #[.string id, .int .i64 at_, .bool came] 68)
  have e1 : IntKind.i64.wrap (now - W) = now - W := IntWalk.i64_in _ (by omega)
  have e2 : IntKind.i64.wrap (now - W - D) = now - W - D := IntWalk.i64_in _ (by omega)
  clear hb hs e0
  go_enter Try.func31, Try.ntmps31
  go_wp2
  go_quiet (fail)
  go_wp2
  go_ret
  exact ⟨rfl, ((Touch.refl _ _).alloc _).drewN _⟩

theorem rmove_any {w : World} {g : Nat} {s : Lg} {sv : Value} (h : RLed w g s sv) (t : Int) :
    Calls Try.prog 28 #[.pointer (some ⟨g, 0, none⟩), .int .i64 t] w fun e w' => e = .returned (.int .i64 (s.rmove t).1) ∧ RLed w' g (s.rmove t).2 sv ∧ Touch (fun k => k = g) w w' := by
  have c3 : w.cell? ⟨g, 3, none⟩ = some (.int .i64 s.now) := (cell_blk h.blk 3).trans rfl
  have f3 := frz_blk h.blk 3
  by_cases h1 : t < s.now
  · have e : s.rmove t = (140, s) := if_pos h1
    rw [e]
    replace h := Lib.hid h
    replace e := Lib.hid e
    go_enter Try.func28, Try.ntmps28
    go_wp2
    go_ret
    exact ⟨rfl, h.out, Touch.refl _ _⟩
  · by_cases h2 : (1099511627776 : Int) < t
    · have e : s.rmove t = (1, s) := by unfold Lg.rmove; rw [if_neg h1, if_pos h2]
      rw [e]
      replace h := Lib.hid h
      replace e := Lib.hid e
      go_enter Try.func28, Try.ntmps28
      go_wp2
      go_ret
      exact ⟨rfl, h.out, Touch.refl _ _⟩
    · have e : s.rmove t = (0, { s with now := t }) := by unfold Lg.rmove; rw [if_neg h1, if_neg h2]
      have hok := rmove_ok h.ok t
      rw [e] at hok ⊢
      simp only [] at hok ⊢
      replace h := Lib.hid h
      replace e := Lib.hid e
      replace hok := Lib.hid hok
      go_enter Try.func28, Try.ntmps28
      go_wp2
      go_ret
      have ht : Touch (fun k => k = g) w (w.setCell ⟨g, 3, none⟩ (.int .i64 t)) := (Touch.refl (fun k => k = g) w).setCell (p := ⟨g, 3, none⟩) (fun _ => rfl) _
      exact ⟨rfl, ⟨heap_setCell_same h.out.blk 3 _, ht.owns h.out.own (fun k hk q => h.out.ne (by rw [← q]; exact hk)), h.out.ne, hok.out⟩, ht⟩

def RFind (q : Lg) (rv : Value) (id : ByteArray) (e : Ending) : Prop :=
  (e = .returned (.int .i64 (-1)) ∧ ∀ x ∈ q.l, ¬ (x.id = id ∧ kn q x = true)) ∨
  ∃ i, ∃ hi : i < q.l.length, e = .returned (.int .i64 (i : Int)) ∧ (q.l[i].id = id ∧ kn q q.l[i] = true) ∧ ∀ j (hj : j < i), ¬ (q.l[j].id = id ∧ kn q q.l[j] = true)

set_option maxHeartbeats 1600000 in
theorem rfind_any {w : World} {g : Nat} {s : Lg} {sv : Value} (h : RLed w g s sv) (id : ByteArray) :
    Calls Try.prog 29 #[.pointer (some ⟨g, 0, none⟩), .string id] w fun e w' => Touch Nothing w w' ∧ RFind s sv id e := by
  obtain ⟨av, cv, rfl⟩ := owns_slice h.own
  have hlen := h.ok.len
  have c4 := fun (w' : World) (ht : Touch Nothing w w') => (cell_blk (ht.heap h.blk (fun q => q)) 4).trans (rfl : _ = some (Value.slice av s.l.length cv))
  obtain ⟨n, hn⟩ : ∃ n, n = s.l.length := ⟨_, rfl⟩
  rw [← hn] at h c4 hlen
  replace hn := Lib.hid hn
  replace h := Lib.hid h
  replace c4 := Lib.hid c4
  go_enter Try.func29, Try.ntmps29
  go_wp2
  go_loopw [5] (fun iv wr => ∃ i : Nat, i ≤ n ∧ iv = .int .i64 (i : Int) ∧ Touch Nothing w wr ∧ Hid (∀ j (hj : j < s.l.length), j < i → ¬ (s.l[j].id = id ∧ kn s s.l[j] = true))) (fun iv _ => n - (intOf iv).toNat)
  case atStart => exact ⟨0, Nat.zero_le _, rfl, Touch.refl _ _, Lib.hid fun j _ hj => by omega⟩
  case round =>
    obtain ⟨i, hi, rfl, ht, hbef⟩ := hrel
    have d4 := c4.out _ ht
    by_cases hin : i < n
    · have hil : i < s.l.length := by have := hn.out; omega
      obtain ⟨gb, cap, hv, ⟨c0, c1, c2⟩, hf⟩ := rrow_cells (ht.owns h.out.own (fun _ _ q => q)) hil
      cases hv
      have hK := known_any wr g s _ (ht.heap h.out.blk (fun q => q)) h.out.ok s.l[i]
      obtain ⟨x, hx⟩ : ∃ x, x = s.l[i] := ⟨_, rfl⟩
      rw [← hx] at c0 c1 c2 hK
      obtain ⟨xid, xat, xc⟩ := x
      unfold lpV at hK
      simp only [] at c0 c1 c2 hK
      clear hf
      have hnext : ¬ (xid = id ∧ kn s ⟨xid, xat, xc⟩ = true) → ∀ j (hj : j < s.l.length), j < i + 1 → ¬ (s.l[j].id = id ∧ kn s s.l[j] = true) := by
        intro hno j hj hji
        rcases Nat.lt_or_ge j i with q | q
        · exact hbef.out j hj q
        · obtain rfl : j = i := by omega
          rw [← hx]; exact hno
      replace hnext := Lib.hid hnext
      by_cases hyid : xid = id
      · subst hyid
        obtain ⟨b, hb⟩ : ∃ b, b = kn s ⟨xid, xat, xc⟩ := ⟨_, rfl⟩
        rw [← hb] at hK
        replace hb := Lib.hid hb
        replace hK := Lib.hid hK
        replace hx := Lib.hid hx
        cases b
        · go_wp2_with (go_at_call 31; refine hK.out.mono ?_; rintro e w2 ⟨rfl, ht2⟩)
          exact ⟨⟨i + 1, by omega, by simp, ht.none ht2, Lib.hid (hnext.out fun q => by have := hb.out; rw [q.2] at this; simp at this)⟩, by simp [intOf]; omega⟩
        · go_wp2_with (go_at_call 31; refine hK.out.mono ?_; rintro e w2 ⟨rfl, ht2⟩)
          go_ret
          exact ⟨ht.none ht2, .inr ⟨i, hil, rfl, by rw [← hx.out]; exact ⟨rfl, hb.out.symm⟩, fun j hj => hbef.out j (by omega) hj⟩⟩
      · replace hx := Lib.hid hx
        have hyb := str_ne hyid
        clear hK
        go_wp2
        exact ⟨⟨i + 1, by omega, by simp, ht, Lib.hid (hnext.out fun q => hyid q.1)⟩, by simp [intOf]; omega⟩
    · go_wp2
      go_ret
      refine ⟨ht, .inl ⟨rfl, fun x hx => ?_⟩⟩
      obtain ⟨j, hj, rfl⟩ := List.mem_iff_getElem.1 hx
      exact hbef.out j hj (by have := hn.out; omega)

set_option maxHeartbeats 1600000 in
theorem many_any {w : World} {g : Nat} {s : Lg} {sv : Value} (h : RLed w g s sv) :
    Calls Try.prog 30 #[.pointer (some ⟨g, 0, none⟩)] w fun e w' => e = .returned (.int .i64 ((s.l.countP (kn s) : Nat) : Int)) ∧ Touch Nothing w w' := by
  obtain ⟨av, cv, rfl⟩ := owns_slice h.own
  have hlen := h.ok.len
  have c4 := fun (w' : World) (ht : Touch Nothing w w') => (cell_blk (ht.heap h.blk (fun q => q)) 4).trans (rfl : _ = some (Value.slice av s.l.length cv))
  obtain ⟨n, hn⟩ : ∃ n, n = s.l.length := ⟨_, rfl⟩
  rw [← hn] at h c4 hlen
  replace hn := Lib.hid hn
  replace h := Lib.hid h
  replace c4 := Lib.hid c4
  obtain ⟨tot, htot⟩ : ∃ tot, tot = s.l.countP (kn s) := ⟨_, rfl⟩
  rw [← htot]
  replace htot := Lib.hid htot
  go_enter Try.func30, Try.ntmps30
  go_wp2
  go_loopw [3, 4] (fun nv iv wr => ∃ (i k : Nat), i ≤ n ∧ k ≤ i ∧ nv = .int .i64 (k : Int) ∧ iv = .int .i64 (i : Int) ∧ Touch Nothing w wr ∧ Hid (k = (s.l.take i).countP (kn s))) (fun _ iv _ => n - (intOf iv).toNat)
  case atStart => exact ⟨0, 0, Nat.zero_le _, Nat.le_refl _, rfl, rfl, Touch.refl _ _, Lib.hid (by simp)⟩
  case round =>
    obtain ⟨i, k, hi, hki, rfl, rfl, ht, hk⟩ := hrel
    have d4 := c4.out _ ht
    by_cases hin : i < n
    · have hil : i < s.l.length := by have := hn.out; omega
      obtain ⟨gb, cap, hv, ⟨c0, c1, c2⟩, hf⟩ := rrow_cells (ht.owns h.out.own (fun _ _ q => q)) hil
      cases hv
      have hK := known_any wr g s _ (ht.heap h.out.blk (fun q => q)) h.out.ok s.l[i]
      have hk1 : (s.l.take (i + 1)).countP (kn s) = (s.l.take i).countP (kn s) + (if kn s s.l[i] then 1 else 0) := by
        rw [List.take_add_one, List.getElem?_eq_getElem hil, List.countP_append]
        simp [List.countP_cons]
      obtain ⟨x, hx⟩ : ∃ x, x = s.l[i] := ⟨_, rfl⟩
      rw [← hx] at c0 c1 c2 hK hk1
      obtain ⟨b, hb⟩ : ∃ b, b = kn s x := ⟨_, rfl⟩
      rw [← hb] at hK hk1
      unfold lpV at hK
      clear hf
      replace hb := Lib.hid hb
      replace hK := Lib.hid hK
      replace hx := Lib.hid hx
      replace hk1 := Lib.hid hk1
      cases b
      · go_wp2_with (go_at_call 31; refine hK.out.mono ?_; rintro e w2 ⟨rfl, ht2⟩)
        exact ⟨⟨i + 1, k, by omega, by omega, rfl, by simp, ht.none ht2, Lib.hid (by rw [hk1.out, hk.out]; simp)⟩, by simp [intOf]; omega⟩
      · go_wp2_with (go_at_call 31; refine hK.out.mono ?_; rintro e w2 ⟨rfl, ht2⟩)
        exact ⟨⟨i + 1, k + 1, by omega, by omega, by simp, by simp, ht.none ht2, Lib.hid (by rw [hk1.out, hk.out]; simp)⟩, by simp [intOf]; omega⟩
    · go_wp2
      go_ret
      have : i = s.l.length := by have := hn.out; omega
      subst this
      have e := hk.out
      rw [List.take_length, ← htot.out] at e
      rw [e]
      exact ⟨rfl, ht⟩

end Go.Proofs.Ytikjcobdddjlbaa
