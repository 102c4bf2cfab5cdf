/-
  Layer 23: a row of loops (three cells each) in a block: its cells; an element stored; the front kept.
-/
import Derived.Test.YtikjcobdddjlbaaLp
namespace Go.Proofs.Ytikjcobdddjlbaa
open Go.RowKit
set_option linter.unusedVariables false
set_option linter.unusedSimpArgs false

def rowC (l : List Lp) : List Value := l.flatMap lpC

theorem rowC_len (l : List Lp) : (rowC l).length = l.length * 3 := by
  induction l with
  | nil => rfl
  | cons a r ih => simp [rowC, lpC] at ih ⊢; omega

theorem rowC_at (l : List Lp) : ∀ (i : Nat) (h : i < l.length) (k : Nat), k < 3 → (rowC l)[i * 3 + k]? = (lpC l[i])[k]? := by
  induction l with
  | nil => intro i h; simp at h
  | cons a r ih =>
    intro i h k hk
    have e : rowC (a :: r) = lpC a ++ rowC r := by simp [rowC]
    rw [e]
    cases i with
    | zero => rw [List.getElem?_append_left (by simp [lpC]; omega)]; simp
    | succ i =>
      rw [List.getElem?_append_right (by simp [lpC]; omega)]
      have := ih i (by simpa using h) k hk
      rw [show (i + 1) * 3 + k - (lpC a).length = i * 3 + k by simp [lpC]; omega, this]
      simp

theorem frozen_blk {w : World} {g : Nat} {cur : Array Value} {e : TypeId} (h : w.heap[g]? = some (.cells cur e (0, 0))) (a : Addr) (ha : a.block = g := by rfl) : w.frozen? a = false := by
  subst ha
  simp [World.frozen?, h]

theorem row_cells {w : World} {v : Value} {n : Nat} {l : List Lp} (h : w.ownsRow 0 61 3 v n (rowC l)) {i : Nat} (hi : i < l.length) :
    ∃ gb cap, v = .slice (some ⟨gb, 0, none⟩) n cap ∧ (w.cell? ⟨gb, i * 3, none⟩ = some (.string l[i].id) ∧ w.cell? ⟨gb, i * 3 + 1, none⟩ = some (.int .i64 l[i].at_) ∧ w.cell? ⟨gb, i * 3 + 2, none⟩ = some (.bool l[i].came)) ∧
      ∀ o, w.frozen? ⟨gb, o, none⟩ = false := by
  have hl : l.length = n := by have := h.1; rw [rowC_len] at this; omega
  rcases h.2 with ⟨hv, h0⟩ | ⟨g, cap, cur, hv, _, hg, hnc, _, hcs, ht⟩
  · omega
  · have hc := fun k (hk : k < 3) => h.cells (g := g) (by rw [hv]; rfl) (i * 3 + k)
    have q0 := hc 0 (by omega) (.string l[i].id) (by rw [rowC_at l i hi 0 (by omega)]; rfl)
    have q1 := hc 1 (by omega) (.int .i64 l[i].at_) (by rw [rowC_at l i hi 1 (by omega)]; rfl)
    have q2 := hc 2 (by omega) (.bool l[i].came) (by rw [rowC_at l i hi 2 (by omega)]; rfl)
    rw [Addr.add_lit] at q0 q1 q2
    exact ⟨g, cap, hv, ⟨by simpa using q0, by simpa using q1, by simpa using q2⟩, fun o => frozen_blk hg _⟩

/-- del, as IndexFunc and DeleteFunc call it. -/
theorem index_any {w : World} {g : Nat} {s : Lg} {sv : Value} (hb : w.heap[g]? = some (ledC s sv)) (hs : s.Ok) {v : Value} {n : Nat} {l : List Lp} (h : w.ownsRow 0 61 3 v n (rowC l)) (hn : n = l.length) (hl : ∀ x ∈ l, 0 ≤ x.at_ ∧ x.at_ ≤ 1099511627776) (hm : n ≤ 4096) :
    Calls Try.prog 34 #[v, .func (.func 32) #[.pointer (some ⟨g, 0, none⟩)] #[]] w fun e w' => Touch Nothing w w' ∧
      ((e = .returned (.int .i64 (-1)) ∧ ∀ x ∈ l, oldAt s.W s.D s.now x = false) ∨
       ∃ i, ∃ hi : i < l.length, e = .returned (.int .i64 (i : Int)) ∧ oldAt s.W s.D s.now l[i] = true ∧ ∀ j (hj : j < i), oldAt s.W s.D s.now l[j] = false) := by
  obtain ⟨a, c, rfl⟩ := owns_slice h
  replace hn := Lib.hid hn
  replace hl := Lib.hid hl
  go_enter Try.func34, Try.ntmps34
  go_wp2
  go_loopw [8] (fun iv wr => ∃ i : Nat, i ≤ n ∧ iv = .int .i64 (i : Int) ∧ Touch Nothing w wr ∧ Hid (∀ j (hj : j < l.length), j < i → oldAt s.W s.D s.now l[j] = false)) (fun iv _ => n - (intOf iv).toNat)
  case atStart => exact ⟨0, Nat.zero_le _, rfl, Touch.refl _ _, Lib.hid fun j _ hj => by omega⟩
  case round =>
    obtain ⟨i, hi, rfl, ht, hold⟩ := hrel
    by_cases hin : i < n
    · have hil : i < l.length := by have := hn.out; omega
      obtain ⟨gb, cap, hv, ⟨c0, c1, c2⟩, hf⟩ := row_cells (ht.owns h (fun _ _ q => q)) hil
      cases hv
      obtain ⟨x, hx⟩ : ∃ x, x = l[i] := ⟨_, rfl⟩
      rw [← hx] at c0 c1 c2
      have hxl : 0 ≤ x.at_ ∧ x.at_ ≤ 1099511627776 := by rw [hx]; exact hl.out _ (List.getElem_mem _)
      have hO := old_any wr g s sv (ht.heap hb (fun q => q)) hs x hxl
      obtain ⟨b, hbv⟩ : ∃ b, b = oldAt s.W s.D s.now x := ⟨_, rfl⟩
      rw [← hbv] at hO
      rw [hx] at hbv
      replace hO := Lib.hid hO
      replace hbv := Lib.hid hbv
      replace hx := Lib.hid hx
      clear hf hxl
      cases b
      · go_wp2_with (go_at_call 32; refine hO.out.mono ?_; rintro e w2 ⟨rfl, ht2⟩)
        refine ⟨⟨i + 1, by omega, by simp, ht.none ht2, Lib.hid fun j hj hji => ?_⟩, by simp [intOf]; omega⟩
        rcases Nat.lt_or_ge j i with q | q
        · exact hold.out j hj q
        · obtain rfl : j = i := by omega
          exact hbv.out.symm
      · go_wp2_with (go_at_call 32; refine hO.out.mono ?_; rintro e w2 ⟨rfl, ht2⟩)
        go_ret
        exact ⟨ht.none ht2, .inr ⟨i, hil, rfl, hbv.out.symm, fun j hj => hold.out j (by omega) hj⟩⟩
    · go_wp2
      go_ret
      refine ⟨ht, .inl ⟨rfl, fun x hx => ?_⟩⟩
      obtain ⟨j, hj, rfl⟩ := List.mem_iff_getElem.1 hx
      exact hold.out j hj (by have := hn.out; omega)

end Go.Proofs.Ytikjcobdddjlbaa
