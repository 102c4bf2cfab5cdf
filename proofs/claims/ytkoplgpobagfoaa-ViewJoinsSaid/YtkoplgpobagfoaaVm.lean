/-
  Layer 27: frames, slices of frames in memory, and which views may be: Check of the program and of the document, walked.
-/
import Derived.Test.YtkoplgpobagfoaaOpl
import Derived.BigQuiet
import Derived.Deep.Cut
import Derived.Deep.QuietTactic
namespace Go.Proofs.Ytkoplgpobagfoaa
open Go.RowKit
set_option linter.unusedVariables false
set_option linter.unusedSimpArgs false

/-- A frame: tick, from, to, bytes. -/
structure Fr where
  a : Int
  f : Int
  t : Int
  l : Int
deriving DecidableEq

/-- Its numbers are ints. -/
def Fr.inR (x : Fr) : Prop := -9223372036854775808 ≤ x.a ∧ x.a ≤ 9223372036854775807 ∧ -9223372036854775808 ≤ x.f ∧ x.f ≤ 9223372036854775807 ∧ -9223372036854775808 ≤ x.t ∧ x.t ≤ 9223372036854775807 ∧ -9223372036854775808 ≤ x.l ∧ x.l ≤ 9223372036854775807

def frCs (x : Fr) : List Value := [.int .i64 x.a, .int .i64 x.f, .int .i64 x.t, .int .i64 x.l]
def frV (x : Fr) : Value := .agg #[.int .i64 x.a, .int .i64 x.f, .int .i64 x.t, .int .i64 x.l]

/-- The slice (p, _, c) reads as these frames. -/
def FrSl (w : World) (p : Option Addr) (c : Nat) (L : List Fr) : Prop :=
  L.length ≤ c ∧ ∀ i (h : i < L.length), ∃ g o, p = some ⟨g, o, none⟩ ∧ w.rangeAt g (o + i * 4) (frCs L[i])

theorem range_keep {F : Nat → Prop} {w w' : World} {g o : Nat} {cs : List Value} (h : w.rangeAt g o cs) (ht : Touch F w w') (hf : ¬ F g) : w'.rangeAt g o cs := fun j v hv => ht.cell (h j v hv) hf

theorem FrSl.keep {F : Nat → Prop} {w w' : World} {p : Option Addr} {c : Nat} {L : List Fr} (h : FrSl w p c L) (ht : Touch F w w') (hf : ∀ q, p = some q → ¬ F q.block) : FrSl w' p c L :=
  ⟨h.1, fun i hi => by obtain ⟨g, o, e, hr⟩ := h.2 i hi; exact ⟨g, o, e, range_keep hr ht (hf ⟨g, o, none⟩ e)⟩⟩

theorem fr_cells {w : World} {g o : Nat} {x : Fr} (h : w.rangeAt g o (frCs x)) :
    w.cell? ⟨g, o, none⟩ = some (.int .i64 x.a) ∧ w.cell? ⟨g, o + 1, none⟩ = some (.int .i64 x.f) ∧ w.cell? ⟨g, o + 2, none⟩ = some (.int .i64 x.t) ∧ w.cell? ⟨g, o + 3, none⟩ = some (.int .i64 x.l) :=
  ⟨h 0 _ rfl, h 1 _ rfl, h 2 _ rfl, h 3 _ rfl⟩

/-! ### Which views may be -/

def bad (x : Fr) : Prop := x.a < 0 ∨ x.f < 0 ∨ x.t < 0 ∨ x.l < 0 ∨ 2147483647 < x.a ∨ 2147483647 < x.f ∨ 2147483647 < x.t ∨ 65536 < x.l
instance (x : Fr) : Decidable (bad x) := by unfold bad; exact inferInstance

/-- From frame k on, the last tick being 'last'. -/
def chk (last : Int) (k : Nat) : List Fr → Int × Int
  | [] => (0, 0)
  | x :: r => if bad x then ((k : Int), 1) else if x.a < last then ((k : Int), 4) else chk x.a (k + 1) r

def chkR (L : List Fr) : Int × Int := if 65536 < L.length then (-1, 2) else chk 0 0 L

theorem chk_drop (last : Int) (L : List Fr) (k : Nat) (h : k < L.length) : chk last k (L.drop k) = if bad L[k] then ((k : Int), 1) else if L[k].a < last then ((k : Int), 4) else chk L[k].a (k + 1) (L.drop (k + 1)) := by
  rw [List.drop_eq_getElem_cons h]
  rfl

def min4 (x y z u : Int) : Int := min (min (min x y) z) u
def max3 (x y z : Int) : Int := max (max x y) z

theorem run_min4 (w : World) (x y z u : Int) : (Builtin.min_ #[3, 3, 3, 3] 3 #[.int .i64 x, .int .i64 y, .int .i64 z, .int .i64 u]).run Try.prog w = .ok (.int .i64 (min4 x y z u)) w := by
  have e : ∀ a b : Int, (if b < a then b else a) = min a b := fun a b => by omega
  simp [Builtin.min_, Builtin.min2, e, min4]

theorem run_max3 (w : World) (x y z : Int) : (Builtin.max_ #[3, 3, 3] 3 #[.int .i64 x, .int .i64 y, .int .i64 z]).run Try.prog w = .ok (.int .i64 (max3 x y z)) w := by
  have e : ∀ a b : Int, (if a < b then b else a) = max a b := fun a b => by omega
  simp [Builtin.max_, Builtin.max2, e, max3]

set_option maxRecDepth 100000 in
set_option maxHeartbeats 1600000 in
theorem Check_any (w : World) (p : Option Addr) (c : Nat) (L : List Fr) (h : FrSl w p c L) :
    Calls Try.prog 21 #[.slice p L.length c] w fun r w' => r = .returned (.tuple #[.int .i64 (chkR L).1, .int .i64 (chkR L).2]) ∧ Touch Nothing w w' := by
  obtain ⟨res, hres⟩ : ∃ x, x = chkR L := ⟨_, rfl⟩
  rw [← hres]
  unfold chkR at hres
  by_cases hn : 65536 < L.length
  · rw [if_pos hn] at hres
    subst hres
    have hni : (65536 : Int) < (L.length : Int) := by omega
    go_enter Try.func21, Try.ntmps21
    go_wp2
    go_ret2
    exact ⟨rfl, Touch.refl _ _⟩
  · rw [if_neg hn] at hres
    have hni : ¬ (65536 : Int) < (L.length : Int) := by omega
    replace h := Lib.hid h
    replace hres := Lib.hid hres
    go_enter Try.func21, Try.ntmps21
    go_wp2
    go_loopw [4, 12] (fun lv iv wr => ∃ (k : Nat) (last : Int), k ≤ L.length ∧ lv = .int .i64 last ∧ iv = .int .i64 (k : Int) ∧ Hid (chk last k (L.drop k) = res) ∧ Touch Nothing w wr) (fun _ iv _ => L.length - (intOf iv).toNat)
    case atStart => exact ⟨0, 0, by omega, rfl, rfl, Lib.hid hres.out.symm, Touch.refl _ _⟩
    case round =>
      obtain ⟨k, last, hk, rfl, rfl, hG, ht⟩ := hrel
      by_cases hlt : k < L.length
      · obtain ⟨g, o, ha, hc⟩ := (h.out.keep ht (fun _ _ q => q)).2 k hlt
        subst ha
        have hk0 : (0 : Int) ≤ (k : Int) := by omega
        have hG2 := chk_drop last L k hlt
        rw [hG.out] at hG2
        obtain ⟨⟨xa, xf, xt, xl⟩, hx⟩ : ∃ x, x = L[k] := ⟨_, rfl⟩
        rw [← hx] at hc hG2
        obtain ⟨c0, c1, c2, c3⟩ := fr_cells hc
        simp only [] at c0 c1 c2 c3 hG2
        replace hx := Lib.hid hx
        replace hG2 := Lib.hid hG2
        clear hc
        have km := fun w => run_min4 w xa xf xt xl
        have kx := fun w => run_max3 w xa xf xt
        obtain ⟨m, hm⟩ : ∃ m, m = min4 xa xf xt xl := ⟨_, rfl⟩
        obtain ⟨M, hM⟩ : ∃ m, m = max3 xa xf xt := ⟨_, rfl⟩
        rw [← hm] at km
        rw [← hM] at kx
        have hm2 : m < 0 ↔ (xa < 0 ∨ xf < 0 ∨ xt < 0 ∨ xl < 0) := by rw [hm]; unfold min4; omega
        have hM2 : 2147483647 < M ↔ (2147483647 < xa ∨ 2147483647 < xf ∨ 2147483647 < xt) := by rw [hM]; unfold max3; omega
        have tx : ∀ o : Obj, Touch Nothing w (wr.alloc o) := fun o => ht.alloc o
        replace tx := Lib.hid tx
        replace hm := Lib.hid hm
        replace hM := Lib.hid hM
        by_cases m0 : m < 0
        · have hb : res = ((k : Int), 1) := by rw [hG2.out, if_pos]; unfold bad; simp only []; rcases hm2.1 m0 with h | h | h | h <;> simp [h]
          replace hb := Lib.hid hb
          clear hm2 hM2
          go_wp2
          go_ret2
          exact ⟨by rw [hb.out]; rfl, tx.out _⟩
        · by_cases M0 : 2147483647 < M
          · have hb : res = ((k : Int), 1) := by rw [hG2.out, if_pos]; unfold bad; simp only []; rcases hM2.1 M0 with h | h | h <;> simp [h]
            replace hb := Lib.hid hb
            clear hm2 hM2
            go_wp2
            go_ret2
            exact ⟨by rw [hb.out]; rfl, tx.out _⟩
          · by_cases l0 : 65536 < xl
            · have hb : res = ((k : Int), 1) := by rw [hG2.out, if_pos]; unfold bad; simp [l0]
              replace hb := Lib.hid hb
              clear hm2 hM2
              go_wp2
              go_ret2
              exact ⟨by rw [hb.out]; rfl, tx.out _⟩
            · have hnb : ¬ bad ⟨xa, xf, xt, xl⟩ := by unfold bad; simp only []; omega
              have hG3 := hG2.out
              rw [if_neg hnb] at hG3
              replace hnb := Lib.hid hnb
              by_cases a0 : xa < last
              · rw [if_pos a0] at hG3
                replace hG3 := Lib.hid hG3
                clear hm2 hM2
                go_wp2
                go_ret2
                exact ⟨by rw [hG3.out]; rfl, tx.out _⟩
              · rw [if_neg a0] at hG3
                replace hG3 := Lib.hid hG3
                clear hm2 hM2
                go_wp2
                exact ⟨⟨k + 1, xa, by omega, rfl, by simp, Lib.hid hG3.out.symm, tx.out _⟩, by simp [intOf]; omega⟩
      · obtain rfl : k = L.length := by omega
        have hG3 : res = (0, 0) := by rw [← hG.out, List.drop_length]; rfl
        replace hG3 := Lib.hid hG3
        go_wp2
        go_ret2
        exact ⟨by rw [hG3.out]; rfl, ht⟩

theorem num_any (w : World) (n : Int) (b : Bool) (hb : b = decide (0 ≤ n ∧ n ≤ 2147483647)) : Calls Try.prog 40 #[.int .i64 n] w fun r w' => r = .returned (.bool b) ∧ w' = w := by
  by_cases h0 : 0 ≤ n
  · by_cases h1 : n ≤ 2147483647
    · have e : b = true := by rw [hb]; simp [h0, h1]
      subst e
      clear hb
      go_enter Try.func40, Try.ntmps40
      go_wp2
      go_ret
      exact ⟨rfl, rfl⟩
    · have e : b = false := by rw [hb]; simp [h0, h1]
      subst e
      clear hb
      go_enter Try.func40, Try.ntmps40
      go_wp2
      go_ret
      exact ⟨rfl, rfl⟩
  · have e : b = false := by rw [hb]; simp [h0]
    subst e
    clear hb
    go_enter Try.func40, Try.ntmps40
    go_wp2
    go_ret
    exact ⟨rfl, rfl⟩

set_option maxRecDepth 100000 in
set_option maxHeartbeats 3200000 in
theorem Check_ref (w : World) (p : Option Addr) (c : Nat) (L : List Fr) (h : FrSl w p c L) :
    Calls Try.prog 22 #[.slice p L.length c] w fun r w' => r = .returned (.tuple #[.int .i64 (chkR L).1, .int .i64 (chkR L).2]) ∧ Touch Nothing w w' := by
  obtain ⟨res, hres⟩ : ∃ x, x = chkR L := ⟨_, rfl⟩
  rw [← hres]
  unfold chkR at hres
  by_cases hn : 65536 < L.length
  · rw [if_pos hn] at hres
    subst hres
    have hni : (65536 : Int) < (L.length : Int) := by omega
    go_enter Try.func22, Try.ntmps22
    go_wp2
    go_ret2
    exact ⟨rfl, Touch.refl _ _⟩
  · rw [if_neg hn] at hres
    have hni : ¬ (65536 : Int) < (L.length : Int) := by omega
    replace h := Lib.hid h
    replace hres := Lib.hid hres
    go_enter Try.func22, Try.ntmps22
    go_wp2
    go_loopw [4] (fun iv wr => ∃ (k : Nat) (last : Int), k ≤ L.length ∧ iv = .int .i64 (k : Int) ∧ Hid ((k = 0 ∧ last = 0) ∨ ∃ j, ∃ hj : j < L.length, k = j + 1 ∧ last = L[j].a) ∧ Hid (chk last k (L.drop k) = res) ∧ Touch Nothing w wr) (fun iv _ => L.length - (intOf iv).toNat)
    case atStart => exact ⟨0, 0, by omega, rfl, Lib.hid (Or.inl ⟨rfl, rfl⟩), Lib.hid hres.out.symm, Touch.refl _ _⟩
    case round =>
      obtain ⟨k, last, hk, rfl, hlast, hG, ht⟩ := hrel
      by_cases hlt : k < L.length
      · have hsl := h.out.keep ht (fun _ _ q => q)
        obtain ⟨g, o, ha, hc⟩ := hsl.2 k hlt
        subst ha
        have hk0 : (0 : Int) ≤ (k : Int) := by omega
        have hG2 := chk_drop last L k hlt
        rw [hG.out] at hG2
        obtain ⟨⟨xa, xf, xt, xl⟩, hx⟩ : ∃ x, x = L[k] := ⟨_, rfl⟩
        rw [← hx] at hc hG2
        obtain ⟨c0, c1, c2, c3⟩ := fr_cells hc
        simp only [] at c0 c1 c2 c3 hG2
        obtain ⟨ba, hba⟩ : ∃ b, b = decide (0 ≤ xa ∧ xa ≤ 2147483647) := ⟨_, rfl⟩
        obtain ⟨bf, hbf⟩ : ∃ b, b = decide (0 ≤ xf ∧ xf ≤ 2147483647) := ⟨_, rfl⟩
        obtain ⟨bt, hbt⟩ : ∃ b, b = decide (0 ≤ xt ∧ xt ≤ 2147483647) := ⟨_, rfl⟩
        have na := Lib.hid (fun w => num_any w xa ba hba)
        have nf := Lib.hid (fun w => num_any w xf bf hbf)
        have nt := Lib.hid (fun w => num_any w xt bt hbt)
        have tx : ∀ o : Obj, Touch Nothing w (wr.alloc o) := fun o => ht.alloc o
        replace tx := Lib.hid tx
        replace hx := Lib.hid hx
        replace hG2 := Lib.hid hG2
        replace hba := Lib.hid hba
        replace hbf := Lib.hid hbf
        replace hbt := Lib.hid hbt
        clear hc hsl
        cases ba
        · have hb : res = ((k : Int), 1) := by rw [hG2.out, if_pos]; unfold bad; simp only []; have := hba.out; simp at this; omega
          replace hb := Lib.hid hb
          go_wp2_with (first | (go_at_call_of 40 (Value.int IntKind.i64 xa); refine (na.out _).mono ?_; rintro r w2 ⟨rfl, rfl⟩) | (go_at_call_of 40 (Value.int IntKind.i64 xf); refine (nf.out _).mono ?_; rintro r w2 ⟨rfl, rfl⟩) | (go_at_call_of 40 (Value.int IntKind.i64 xt); refine (nt.out _).mono ?_; rintro r w2 ⟨rfl, rfl⟩))
          go_ret2
          exact ⟨by rw [hb.out]; rfl, tx.out _⟩
        · cases bf
          · have hb : res = ((k : Int), 1) := by rw [hG2.out, if_pos]; unfold bad; simp only []; have := hbf.out; simp at this; omega
            replace hb := Lib.hid hb
            go_wp2_with (first | (go_at_call_of 40 (Value.int IntKind.i64 xa); refine (na.out _).mono ?_; rintro r w2 ⟨rfl, rfl⟩) | (go_at_call_of 40 (Value.int IntKind.i64 xf); refine (nf.out _).mono ?_; rintro r w2 ⟨rfl, rfl⟩) | (go_at_call_of 40 (Value.int IntKind.i64 xt); refine (nt.out _).mono ?_; rintro r w2 ⟨rfl, rfl⟩))
            go_ret2
            exact ⟨by rw [hb.out]; rfl, tx.out _⟩
          · cases bt
            · have hb : res = ((k : Int), 1) := by rw [hG2.out, if_pos]; unfold bad; simp only []; have := hbt.out; simp at this; omega
              replace hb := Lib.hid hb
              go_wp2_with (first | (go_at_call_of 40 (Value.int IntKind.i64 xa); refine (na.out _).mono ?_; rintro r w2 ⟨rfl, rfl⟩) | (go_at_call_of 40 (Value.int IntKind.i64 xf); refine (nf.out _).mono ?_; rintro r w2 ⟨rfl, rfl⟩) | (go_at_call_of 40 (Value.int IntKind.i64 xt); refine (nt.out _).mono ?_; rintro r w2 ⟨rfl, rfl⟩))
              go_ret2
              exact ⟨by rw [hb.out]; rfl, tx.out _⟩
            · by_cases l0 : xl < 0
              · have hb : res = ((k : Int), 1) := by rw [hG2.out, if_pos]; unfold bad; simp only []; omega
                replace hb := Lib.hid hb
                go_wp2_with (first | (go_at_call_of 40 (Value.int IntKind.i64 xa); refine (na.out _).mono ?_; rintro r w2 ⟨rfl, rfl⟩) | (go_at_call_of 40 (Value.int IntKind.i64 xf); refine (nf.out _).mono ?_; rintro r w2 ⟨rfl, rfl⟩) | (go_at_call_of 40 (Value.int IntKind.i64 xt); refine (nt.out _).mono ?_; rintro r w2 ⟨rfl, rfl⟩))
                go_ret2
                exact ⟨by rw [hb.out]; rfl, tx.out _⟩
              · by_cases l1 : 65536 < xl
                · have hb : res = ((k : Int), 1) := by rw [hG2.out, if_pos]; unfold bad; simp only []; omega
                  replace hb := Lib.hid hb
                  go_wp2_with (first | (go_at_call_of 40 (Value.int IntKind.i64 xa); refine (na.out _).mono ?_; rintro r w2 ⟨rfl, rfl⟩) | (go_at_call_of 40 (Value.int IntKind.i64 xf); refine (nf.out _).mono ?_; rintro r w2 ⟨rfl, rfl⟩) | (go_at_call_of 40 (Value.int IntKind.i64 xt); refine (nt.out _).mono ?_; rintro r w2 ⟨rfl, rfl⟩))
                  go_ret2
                  exact ⟨by rw [hb.out]; rfl, tx.out _⟩
                · have hnb : ¬ bad ⟨xa, xf, xt, xl⟩ := by
                    have h1 := hba.out
                    have h2 := hbf.out
                    have h3 := hbt.out
                    simp at h1 h2 h3
                    unfold bad; simp only []; omega
                  have hG3 := hG2.out
                  rw [if_neg hnb] at hG3
                  have hxa : 0 ≤ xa := by have := hba.out; simp at this; omega
                  clear hnb hG2
                  rcases hlast.out with ⟨rfl, rfl⟩ | ⟨j, hj, rfl, hla⟩
                  · rw [if_neg (by omega)] at hG3
                    replace hG3 := Lib.hid hG3
                    rw [Nat.zero_mul, Nat.add_zero] at c0 c1 c2 c3
                    go_upto_region 9 with (first | (go_at_call_of 40 (Value.int IntKind.i64 xa); refine (na.out _).mono ?_; rintro r w2 ⟨rfl, rfl⟩) | (go_at_call_of 40 (Value.int IntKind.i64 xf); refine (nf.out _).mono ?_; rintro r w2 ⟨rfl, rfl⟩) | (go_at_call_of 40 (Value.int IntKind.i64 xt); refine (nt.out _).mono ?_; rintro r w2 ⟨rfl, rfl⟩))
                    go_quiet (fail)
                    go_wp2
                    exact ⟨⟨1, xa, by omega, rfl, Lib.hid (Or.inr ⟨0, hlt, rfl, by rw [← hx.out]⟩), Lib.hid hG3.out.symm, (tx.out _).drewN _⟩, by simp [intOf]; omega⟩
                  · obtain ⟨g', o', e', hc'⟩ := (h.out.keep ht (fun _ _ q => q)).2 j hj
                    obtain ⟨rfl, rfl⟩ : g = g' ∧ o = o' := by simpa using e'
                    obtain ⟨d0, _⟩ := fr_cells hc'
                    rw [← hla] at d0
                    have d1 := ((Touch.refl Nothing wr).alloc (.cells #[.int .i64 xa, .int .i64 xf, .int .i64 xt, .int .i64 xl] 50)).cell d0 (fun q => q)
                    have hj2 : (((j + 1 : Nat) : Int) - 1) = (j : Int) := by omega
                    have hj3 : (0 : Int) < ((j + 1 : Nat) : Int) := by omega
                    have hj4 : (j : Int) < (L.length : Int) := by omega
                    have hj5 : (0 : Int) ≤ (j : Int) := by omega
                    have hj6 : (j : Int) + 1 - 1 = (j : Int) := by omega
                    have hj7 : (0 : Int) < (j : Int) + 1 := by omega
                    have hj8 : IntKind.i64.wrap (j : Int) = (j : Int) := wraps_i64 _ (by omega) (by omega)
                    clear hc' e'
                    by_cases a0 : xa < last
                    · rw [if_pos a0] at hG3
                      replace hG3 := Lib.hid hG3
                      go_upto_region 9 with (first | (go_at_call_of 40 (Value.int IntKind.i64 xa); refine (na.out _).mono ?_; rintro r w2 ⟨rfl, rfl⟩) | (go_at_call_of 40 (Value.int IntKind.i64 xf); refine (nf.out _).mono ?_; rintro r w2 ⟨rfl, rfl⟩) | (go_at_call_of 40 (Value.int IntKind.i64 xt); refine (nt.out _).mono ?_; rintro r w2 ⟨rfl, rfl⟩))
                      go_quiet (fail)
                      go_wp2
                      go_ret2
                      exact ⟨by rw [hG3.out]; rfl, (tx.out _).drewN _⟩
                    · rw [if_neg a0] at hG3
                      replace hG3 := Lib.hid hG3
                      go_upto_region 9 with (first | (go_at_call_of 40 (Value.int IntKind.i64 xa); refine (na.out _).mono ?_; rintro r w2 ⟨rfl, rfl⟩) | (go_at_call_of 40 (Value.int IntKind.i64 xf); refine (nf.out _).mono ?_; rintro r w2 ⟨rfl, rfl⟩) | (go_at_call_of 40 (Value.int IntKind.i64 xt); refine (nt.out _).mono ?_; rintro r w2 ⟨rfl, rfl⟩))
                      go_quiet (fail)
                      go_wp2
                      exact ⟨⟨j + 1 + 1, xa, by omega, by simp, Lib.hid (Or.inr ⟨j + 1, hlt, rfl, by rw [← hx.out]⟩), Lib.hid hG3.out.symm, (tx.out _).drewN _⟩, by simp [intOf]; omega⟩
      · obtain rfl : k = L.length := by omega
        have hG3 : res = (0, 0) := by rw [← hG.out, List.drop_length]; rfl
        replace hG3 := Lib.hid hG3
        go_wp2
        go_ret2
        exact ⟨by rw [hG3.out]; rfl, ht⟩

end Go.Proofs.Ytkoplgpobagfoaa
