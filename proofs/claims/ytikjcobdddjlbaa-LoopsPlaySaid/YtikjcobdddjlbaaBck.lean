/-
  Layer 23: Back.
-/
import Derived.Test.YtikjcobdddjlbaaSnt
namespace Go.Proofs.Ytikjcobdddjlbaa
open Go.RowKit
set_option linter.unusedVariables false
set_option linter.unusedSimpArgs false

/-- The first loop of that id comes back. -/
def back1 : List Lp → ByteArray → Int × List Lp
  | [], _ => (5, [])
  | x :: r, id => if x.id = id then (if x.came then (6, x :: r) else (0, ⟨x.id, x.at_, true⟩ :: r)) else ((back1 r id).1, x :: (back1 r id).2)

theorem back1_no {l : List Lp} {id : ByteArray} (h : ∀ x ∈ l, x.id ≠ id) : back1 l id = (5, l) := by
  induction l with
  | nil => rfl
  | cons x r ih =>
    unfold back1
    rw [if_neg (h x (List.mem_cons_self ..)), ih fun y hy => h y (List.mem_cons_of_mem _ hy)]

theorem back1_at {l : List Lp} {id : ByteArray} : ∀ {i : Nat} (hi : i < l.length), l[i].id = id → (∀ j (hj : j < i), l[j].id ≠ id) →
    back1 l id = if l[i].came then (6, l) else (0, l.set i ⟨l[i].id, l[i].at_, true⟩) := by
  induction l with
  | nil => intro i hi; simp at hi
  | cons x r ih =>
    intro i hi h1 h2
    cases i with
    | zero =>
      unfold back1
      simp only [List.getElem_cons_zero] at h1 ⊢
      rw [if_pos h1]
      rfl
    | succ i =>
      have h0 := h2 0 (by omega)
      simp only [List.getElem_cons_zero] at h0
      simp only [List.getElem_cons_succ] at h1 ⊢
      have := ih (by simpa using hi) h1 fun j hj => by
        have := h2 (j + 1) (by omega)
        simpa using this
      unfold back1
      rw [if_neg h0, this]
      split <;> rfl

def Lg.back (s : Lg) (t : Int) (id : ByteArray) : Int × Lg :=
  match s.move t with
  | (e, m) => if e ≠ 0 then (e, m) else ((back1 m.l id).1, { m with l := (back1 m.l id).2 })

theorem back1_len (l : List Lp) (id : ByteArray) : (back1 l id).2.length = l.length := by
  induction l with
  | nil => rfl
  | cons x r ih => unfold back1; split <;> (try split) <;> simp [ih]

theorem back1_at_ {l : List Lp} {id : ByteArray} {P : Int → Prop} (h : ∀ x ∈ l, P x.at_) : ∀ x ∈ (back1 l id).2, P x.at_ := by
  induction l with
  | nil => intro x hx; simp [back1] at hx
  | cons y r ih =>
    have hy := h y (List.mem_cons_self ..)
    have ih := ih fun z hz => h z (List.mem_cons_of_mem _ hz)
    have hr := fun z hz => h z (List.mem_cons_of_mem y hz)
    unfold back1
    intro x hx
    split at hx
    · split at hx
      · exact h x hx
      · rcases List.mem_cons.1 hx with q | q
        · rw [q]; exact hy
        · exact hr x q
    · rcases List.mem_cons.1 hx with q | q
      · rw [q]; exact hy
      · exact ih x q

theorem back_ok {s : Lg} (hs : s.Ok) (t : Int) (id : ByteArray) : (s.back t id).2.Ok := by
  have hm := Lg.move_ok hs t
  unfold Lg.back
  obtain ⟨⟨e, m⟩, he⟩ : ∃ r, s.move t = r := ⟨_, rfl⟩
  rw [he] at hm ⊢
  simp only [] at hm ⊢
  split
  · exact hm
  · exact ⟨hm.W, hm.D, hm.H, hm.now, back1_at_ (P := fun a => 0 ≤ a ∧ a ≤ 1099511627776) hm.at_, by rw [back1_len]; exact hm.len⟩

theorem set_came (l : List Lp) (i : Nat) (hi : i < l.length) : (rowC l).set (i * 3 + 2) (.bool true) = rowC (l.set i ⟨l[i].id, l[i].at_, true⟩) := by
  rw [rowC_set l i hi]
  have h0 := rowC_at l i hi 0 (by omega)
  have h1 := rowC_at l i hi 1 (by omega)
  have e0 : (rowC l).set (i * 3) (.string l[i].id) = rowC l := by
    apply List.ext_getElem? ; intro j
    rw [List.getElem?_set]
    split
    · subst_vars
      split
      · rw [show i * 3 + 0 = i * 3 by omega] at h0; rw [h0]; rfl
      · rename_i q; rw [rowC_len] at q; omega
    · rfl
  have e1 : (rowC l).set (i * 3 + 1) (.int .i64 l[i].at_) = rowC l := by
    apply List.ext_getElem? ; intro j
    rw [List.getElem?_set]
    split
    · subst_vars
      split
      · rw [h1]; rfl
      · rename_i q; rw [rowC_len] at q; omega
    · rfl
  rw [e0, e1]

/-- A ledger of which one loop came back. -/
theorem Led.came {w : World} {g gb cap i : Nat} {m : Lg} (h : Led w g m (.slice (some ⟨gb, 0, none⟩) m.l.length cap)) (hi : i < m.l.length) (hok : Lg.Ok { m with l := m.l.set i ⟨m.l[i].id, m.l[i].at_, true⟩ }) :
    LedPost w g (.slice (some ⟨gb, 0, none⟩) m.l.length cap) { m with l := m.l.set i ⟨m.l[i].id, m.l[i].at_, true⟩ } (w.setCell ⟨gb, i * 3 + 2, none⟩ (.bool true)) := by
  have hne : gb ≠ g := fun e => h.ne (by rw [e]; rfl)
  have ht : Touch (fun k => k = gb) w (w.setCell ⟨gb, i * 3 + 2, none⟩ (.bool true)) := (Touch.refl (fun k => k = gb) w).setCell (p := ⟨gb, i * 3 + 2, none⟩) (fun _ => rfl) _
  have ho := owns_set h.own (i * 3 + 2) (.bool true)
  rw [set_came _ _ hi] at ho
  exact ⟨_, ⟨ht.heap h.blk (fun q => hne q.symm), by simpa using ho, h.ne, hok⟩, ht.mono fun k _ q => .inr (by rw [q]; rfl), fun k hk => .inl hk⟩

set_option maxRecDepth 100000 in
set_option maxHeartbeats 1600000 in
theorem Back_any {w : World} {g : Nat} {s : Lg} {sv : Value} (h : Led w g s sv) (t : Int) (id : ByteArray) :
    Calls Try.prog 12 #[.pointer (some ⟨g, 0, none⟩), .int .i64 t, .string id] w fun e w' => e = .returned (.int .i64 (s.back t id).1) ∧ LedPost w g sv (s.back t id).2 w' := by
  have hM := move_any h t
  have hok := back_ok h.ok t id
  have hg := lt_of_heap h.blk
  unfold Lg.back at hok ⊢
  obtain ⟨⟨e0, m⟩, hm⟩ : ∃ r, s.move t = r := ⟨_, rfl⟩
  rw [hm] at hM hok ⊢
  simp only [] at hM hok ⊢
  replace hM := Lib.hid hM
  clear h hm
  by_cases he : e0 = 0
  · subst he
    rw [if_neg (by simp)] at hok ⊢
    replace hok := Lib.hid hok
    cases hh : hasB m.l id with
    | false =>
      have hb : back1 m.l id = (5, m.l) := back1_no fun x hx e => by
        have : hasB m.l id = true := List.any_eq_true.2 ⟨x, hx, decide_eq_true e⟩
        rw [hh] at this; simp at this
      rw [hb]
      replace hh := Lib.hid hh
      replace hb := Lib.hid hb
      go_enter Try.func12, Try.ntmps12
      go_wp2_with (first
        | (go_at_call 23; refine hM.out.mono ?_; rintro e w2 ⟨rfl, hp⟩; have hq := hp; obtain ⟨sv2, hl2, hp2, hp3⟩ := hq)
        | (go_at_call 24; refine (find_no hl2 hh.out).mono ?_; rintro e w3 ⟨rfl, rfl⟩))
      go_ret
      exact ⟨rfl, hp⟩
    | true =>
      replace hh := Lib.hid hh
      obtain ⟨bk, hbk⟩ : ∃ r, back1 m.l id = r := ⟨_, rfl⟩
      rw [hbk] at hok ⊢
      obtain ⟨be, bl⟩ := bk
      simp only [] at hok ⊢
      replace hbk := Lib.hid hbk
      go_enter Try.func12, Try.ntmps12
      go_upto_region 5 with (first
        | (go_at_call 23; refine hM.out.mono ?_; rintro e w2 ⟨rfl, hp⟩; have hq := hp; obtain ⟨sv2, hl2, hp2, hp3⟩ := hq)
        | (go_at_call 24; refine (find_yes hl2 hh.out).mono ?_; rintro e w3 ⟨rfl, i, hi, gb, cap, hsv, rfl, hid, hfst⟩))
      subst hsv
      obtain ⟨gb', cap', hv', ⟨k0, k1, k2⟩, hf⟩ := row_cells hl2.own hi
      cases hv'
      have f2 := hf (i * 3 + 2)
      have hat := back1_at hi hid hfst
      rw [hbk.out] at hat
      have hcm := hl2.came hi
      obtain ⟨cm, hc⟩ : ∃ cm, cm = m.l[i].came := ⟨_, rfl⟩
      rw [← hc] at k2 hat
      clear k0 k1 hf hfst hid hc
      replace hcm := Lib.hid hcm
      cases cm
      · rw [if_neg (by simp)] at hat
        cases hat
        go_wp2
        go_ret
        exact ⟨rfl, LedPost.then hg hp2 hp3 (hcm.out hok.out)⟩
      · rw [if_pos rfl] at hat
        cases hat
        go_wp2
        go_ret
        exact ⟨rfl, hp⟩
  · rw [if_pos he]
    have hb : (e0 != 0) = true := by simpa using he
    clear hok
    go_enter Try.func12, Try.ntmps12
    go_wp2_with (go_at_call 23; refine hM.out.mono ?_; rintro e w2 ⟨rfl, hp⟩)
    go_ret
    exact ⟨rfl, hp⟩

end Go.Proofs.Ytikjcobdddjlbaa
