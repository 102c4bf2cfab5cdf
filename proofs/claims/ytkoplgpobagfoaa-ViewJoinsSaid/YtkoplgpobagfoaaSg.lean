/-
  The stable sort, walked, at any length.
-/
import Derived.Test.YtkoplgpobagfoaaSf
import Derived.Test.YtkoplgpobagfoaaVv
namespace Go.Proofs.Ytkoplgpobagfoaa
open Go.RowKit
set_option linter.unusedVariables false
set_option linter.unusedSimpArgs false

theorem St.len {cf : Fr → Fr → Int} {X Z : List Fr} (h : St cf X Z) : Z.length = X.length := h.1.symm
theorem S1.len {cf : Fr → Fr → Int} {M X : List Fr} {a : Nat} (h : S1 cf M X a) : X.length = M.length ∧ a ≤ X.length := by
  obtain ⟨Ps, R, e, h1, h2, h3⟩ := h
  exact ⟨h3.len, by rw [e, List.length_append]; omega⟩
theorem S2.len {cf : Fr → Fr → Int} {M X : List Fr} {k : Nat} (h : S2 cf M X k) : X.length = M.length := by
  obtain ⟨_, _, _, _, _, _, h⟩ := h
  exact h.len
theorem S3.len {cf : Fr → Fr → Int} {M X : List Fr} {k a : Nat} (h : S3 cf M X k a) : X.length = M.length ∧ a ≤ X.length := by
  obtain ⟨Ps, Qs, T, e, _, _, _, _, h2, h3⟩ := h
  exact ⟨h3.len, by rw [e, List.length_append]; omega⟩

/-- One call of the insertion, one of the merging, as the rounds need them. -/
theorem ins_call (F : Nat) (cf : Fr → Fr → Int) (hF : ∀ (args : Array Value) (w : World), (callFunc F args).run Try.prog w = .ok (.enter F args) w)
    (hcf : ∀ (w : World) (x y : Fr), Calls Try.prog F #[frV x, frV y] w fun r w' => r = .returned (.int .i64 (cf x y)) ∧ Touch Nothing w w')
    (w : World) (g c n a b : Nat) (X : List Fr) (hX : RowF w g X) (hn : X.length = n) (hb : b ≤ n) (hl : n ≤ 1048576) (hab : a ≤ b) :
    Calls Try.prog 54 #[.slice (some ⟨g, 0, none⟩) n c, .int .i64 (a : Int), .int .i64 (b : Int), .func (.func F) #[] #[]] w fun r w' => r = .returned (.tuple #[]) ∧ RowF w' g (insS cf a b X) ∧ Touch (fun k => k = g) w w' := by
  subst hn
  exact ins_any F cf hF hcf w g c a b X hX hb (by omega) hab

theorem two_call (F : Nat) (cf : Fr → Fr → Int) (hF : ∀ (args : Array Value) (w : World), (callFunc F args).run Try.prog w = .ok (.enter F args) w)
    (hcf : ∀ (w : World) (x y : Fr), Calls Try.prog F #[frV x, frV y] w fun r w' => r = .returned (.int .i64 (cf x y)) ∧ Touch Nothing w w') (hw : Weak cf)
    (w : World) (g c n a m b k : Nat) (M X : List Fr) (hk : 0 < k) (hX : RowF w g X) (h : S3 cf M X k a) (hn : X.length = n) (hm : m = a + k) (hb : b = a + 2 * k) (hbn : b ≤ n) (hl : n ≤ 1048576) :
    Calls Try.prog 55 #[.slice (some ⟨g, 0, none⟩) n c, .int .i64 (a : Int), .int .i64 (m : Int), .int .i64 (b : Int), .func (.func F) #[] #[]] w fun r w' => r = .returned (.tuple #[]) ∧ (∃ Y, RowF w' g Y ∧ S3 cf M Y k b) ∧ Touch (fun k => k = g) w w' := by
  obtain ⟨A, u, v, D, e, ea, eu, ev, su, sv, hZ⟩ := h.split (by omega)
  have hl2 : n = A.length + u.length + v.length + D.length := by rw [← hn, e]; simp; omega
  refine (sym_any F cf hF hcf hw g c n hl (b - a + 1) w A u v D a m b ea (by omega) (by omega) (by omega) (by omega) (by omega) (by omega) su sv (by rw [← e]; exact hX)).mono ?_
  rintro r w' ⟨rfl, ⟨Z, h1, h2, h3⟩, t⟩
  exact ⟨rfl, ⟨_, h1, by rw [hb]; exact hZ Z h2 h3⟩, t⟩
theorem end_call (F : Nat) (cf : Fr → Fr → Int) (hF : ∀ (args : Array Value) (w : World), (callFunc F args).run Try.prog w = .ok (.enter F args) w)
    (hcf : ∀ (w : World) (x y : Fr), Calls Try.prog F #[frV x, frV y] w fun r w' => r = .returned (.int .i64 (cf x y)) ∧ Touch Nothing w w') (hw : Weak cf)
    (w : World) (g c n a m k : Nat) (M X : List Fr) (hk : 0 < k) (hX : RowF w g X) (h : S3 cf M X k a) (hn : X.length = n) (hm : m = a + k) (hmn : m < n) (hbn : n < a + 2 * k) (hl : n ≤ 1048576) :
    Calls Try.prog 55 #[.slice (some ⟨g, 0, none⟩) n c, .int .i64 (a : Int), .int .i64 (m : Int), .int .i64 (n : Int), .func (.func F) #[] #[]] w fun r w' => r = .returned (.tuple #[]) ∧ (∃ Y, RowF w' g Y ∧ S2 cf M Y (2 * k)) ∧ Touch (fun k => k = g) w w' := by
  obtain ⟨A, u, v, e, ea, eu, ev, su, sv, hZ⟩ := h.last (by omega) (by omega)
  refine (sym_any F cf hF hcf hw g c n hl (n - a + 1) w A u v [] a m n ea (by omega) (by omega) (by simp) (by omega) (by omega) (by omega) su sv (by rw [← e]; exact hX)).mono ?_
  rintro r w' ⟨rfl, ⟨Z, h1, h2, h3⟩, t⟩
  exact ⟨rfl, ⟨_, h1, hZ Z h2 h3⟩, t⟩

set_option maxRecDepth 100000 in
set_option maxHeartbeats 6400000 in
theorem stable_any (F : Nat) (cf : Fr → Fr → Int) (hF : ∀ (args : Array Value) (w : World), (callFunc F args).run Try.prog w = .ok (.enter F args) w)
    (hcf : ∀ (w : World) (x y : Fr), Calls Try.prog F #[frV x, frV y] w fun r w' => r = .returned (.int .i64 (cf x y)) ∧ Touch Nothing w w') (hw : Weak cf)
    (w : World) (g c n : Nat) (M : List Fr) (hM : RowF w g M) (hn : M.length = n) (hl : n ≤ 1048576) :
    Calls Try.prog 49 #[.slice (some ⟨g, 0, none⟩) n c, .int .i64 (n : Int), .func (.func F) #[] #[]] w fun r w' => r = .returned (.tuple #[]) ∧ (∃ X, RowF w' g X ∧ Srd cf X ∧ St cf M X) ∧ Touch (fun k => k = g) w w' := by
  have hI := fun w X a b h1 h2 h3 h4 => ins_call F cf hF hcf w g c n a b X h1 h2 h3 hl h4
  have hT := fun w X a m b k hk h1 h2 h3 h4 h5 h6 => two_call F cf hF hcf hw w g c n a m b k M X hk h1 h2 h3 h4 h5 h6 hl
  have hE := fun w X a m k hk h1 h2 h3 h4 h5 h6 => end_call F cf hF hcf hw w g c n a m k M X hk h1 h2 h3 h4 h5 h6 hl
  replace hI := Lib.hid hI
  replace hT := Lib.hid hT
  replace hE := Lib.hid hE
  replace hw := Lib.hid hw
  replace hM := Lib.hid hM
  replace hn := Lib.hid hn
  clear hF hcf
  go_enter Try.func49, Try.ntmps49
  go_wp2
  go_loopw [7, 8] (fun av bv wr => ∃ (a b : Nat) (X : List Fr), Hid (b = a + 20) ∧ a ≤ n ∧ av = .int .i64 (a : Int) ∧ bv = .int .i64 (b : Int) ∧ Hid (S1 cf M X a ∧ RowF wr g X) ∧ Touch (fun k => k = g) w wr) (fun av _ _ => n - (intOf av).toNat)
  case atStart => exact ⟨0, 20, M, Lib.hid rfl, Nat.zero_le _, rfl, rfl, Lib.hid ⟨S1.start M, hM.out⟩, Touch.refl _ _⟩
  case round =>
    obtain ⟨a, b, X, hb, han, rfl, rfl, hX, ht⟩ := hrel
    by_cases hlt : b ≤ n
    · have hlti : (b : Int) ≤ (n : Int) := by omega
      have z1 : IntKind.i64.wrap ((b : Int) + 20) = (b : Int) + 20 := wraps_i64 _ (by omega) (by omega)
      have hlX : X.length = n := by rw [hX.out.1.len.1]; exact hn.out
      have hc := hI.out wr X a b hX.out.2 hlX hlt (by have := hb.out; omega)
      have hs : S1 cf M (insS cf a b X) b := by
        have := hb.out
        subst this
        exact hX.out.1.step hw.out (by omega)
      replace hs := Lib.hid hs
      replace hc := Lib.hid hc
      clear hX
      go_wp2_with (first | (go_at_call 54; refine hc.out.mono ?_; rintro r w2 ⟨rfl, hR, t2⟩; replace hR := Lib.hid hR))
      exact ⟨⟨b, b + 20, _, Lib.hid rfl, hlt, rfl, by simp, Lib.hid ⟨hs.out, hR.out⟩, ht.trans' t2⟩, by have := hb.out; simp [intOf]; omega⟩
    · have hlti : ¬ (b : Int) ≤ (n : Int) := by omega
      have hlX : X.length = n := by rw [hX.out.1.len.1]; exact hn.out
      have hc := hI.out wr X a n hX.out.2 hlX (Nat.le_refl _) han
      have hs : S2 cf M (insS cf a n X) 20 := by
        have := hX.out.1.last hw.out (by have := hb.out; omega)
        rw [hlX] at this
        exact this
      replace hs := Lib.hid hs
      replace hc := Lib.hid hc
      clear hX
      go_wp2_with (first | (go_at_call 54; refine hc.out.mono ?_; rintro r w2 ⟨rfl, hR, t2⟩; replace hR := Lib.hid hR))
      have ht2 := ht.trans' t2
      clear hc ht t2 hlt hlti han hb
      go_loopw [6] (fun kv wr2 => ∃ (k : Nat) (Y : List Fr), 0 < k ∧ k ≤ 2097152 ∧ kv = .int .i64 (k : Int) ∧ Hid (S2 cf M Y k ∧ RowF wr2 g Y) ∧ Touch (fun k => k = g) w wr2) (fun kv _ => n - (intOf kv).toNat)
      case atStart => exact ⟨20, _, by omega, by omega, rfl, Lib.hid ⟨hs.out, hR.out⟩, ht2⟩
      case round =>
        clear hs hR ht2
        obtain ⟨k, Y, hk0, hk1, rfl, hY, ht3⟩ := hrel
        have hlY : Y.length = n := by rw [hY.out.1.len]; exact hn.out
        by_cases hkn : k < n
        · have hkni : (k : Int) < (n : Int) := by omega
          obtain ⟨kk, hkk⟩ : ∃ q, q = 2 * k := ⟨_, rfl⟩
          have z1 : 2 * (k : Int) = (kk : Int) := by omega
          have z2 : (k : Int) * 2 = (kk : Int) := by omega
          have z3 : IntKind.i64.wrap (kk : Int) = (kk : Int) := wraps_i64 _ (by omega) (by omega)
          have hkkl : kk ≤ 2097152 := by omega
          have hkk2 : k < kk := by omega
          replace hkk := Lib.hid hkk
          go_wp2
          clear z1
          go_loopw [7, 8] (fun av bv wr3 => ∃ (a b : Nat) (X : List Fr), Hid (b = a + kk) ∧ a ≤ n ∧ av = .int .i64 (a : Int) ∧ bv = .int .i64 (b : Int) ∧ Hid (S3 cf M X k a ∧ RowF wr3 g X) ∧ Touch (fun k => k = g) w wr3) (fun av _ _ => n - (intOf av).toNat)
          case atStart => exact ⟨0, kk, Y, Lib.hid (by omega), Nat.zero_le _, rfl, by simp, Lib.hid ⟨hY.out.1.enter, hY.out.2⟩, ht3⟩
          case round =>
            clear hY ht3 hlY
            obtain ⟨a, b, X, hb, han, rfl, rfl, hX, ht4⟩ := hrel
            have hlX : X.length = n := by rw [hX.out.1.len.1]; exact hn.out
            obtain ⟨m, hm⟩ : ∃ q, q = a + k := ⟨_, rfl⟩
            have y1 : (a : Int) + (k : Int) = (m : Int) := by omega
            have y2 : IntKind.i64.wrap (m : Int) = (m : Int) := wraps_i64 _ (by omega) (by omega)
            have hmk : m ≤ 3145728 := by omega
            replace hm := Lib.hid hm
            by_cases hlt : b ≤ n
            · have hlti : (b : Int) ≤ (n : Int) := by omega
              obtain ⟨b2, hb2⟩ : ∃ q, q = b + kk := ⟨_, rfl⟩
              have y3 : 2 * (k : Int) = (kk : Int) := by have := hkk.out; omega
              have y4 : (b : Int) + (kk : Int) = (b2 : Int) := by omega
              have y5 : IntKind.i64.wrap (b2 : Int) = (b2 : Int) := wraps_i64 _ (by omega) (by omega)
              have hc := hT.out wr X a m b k hk0 hX.out.2 hX.out.1 hlX hm.out (by rw [hb.out, hkk.out]) hlt
              replace hc := Lib.hid hc
              replace hb2 := Lib.hid hb2
              clear hX
              go_wp2_with (first | (go_at_call 55; refine hc.out.mono ?_; rintro r w2 ⟨rfl, hR, t2⟩; replace hR := Lib.hid hR))
              obtain ⟨Y2, h1, h2⟩ := hR.out
              exact ⟨⟨b, b2, Y2, hb2, hlt, rfl, rfl, Lib.hid ⟨h2, h1⟩, ht4.trans' t2⟩, by have := hb.out; simp [intOf]; omega⟩
            · have hlti : ¬ (b : Int) ≤ (n : Int) := by omega
              by_cases hmn : m < n
              · have hmni : (m : Int) < (n : Int) := by omega
                have hc := hE.out wr X a m k hk0 hX.out.2 hX.out.1 hlX hm.out hmn (by have := hb.out; have := hkk.out; omega)
                replace hc := Lib.hid hc
                clear hX
                go_wp2_with (first | (go_at_call 55; refine hc.out.mono ?_; rintro r w2 ⟨rfl, hR, t2⟩; replace hR := Lib.hid hR))
                obtain ⟨Y2, h1, h2⟩ := hR.out
                exact ⟨⟨kk, Y2, by omega, hkkl, rfl, Lib.hid ⟨by rw [hkk.out]; exact h2, h1⟩, ht4.trans' t2⟩, by simp [intOf]; omega⟩
              · have hmni : ¬ (m : Int) < (n : Int) := by omega
                have hs := hX.out.1.whole (by have := hm.out; omega) hk0
                rw [← hkk.out] at hs
                have hR := Lib.hid (And.intro hs hX.out.2)
                clear hX hs
                go_wp2
                exact ⟨⟨kk, X, by omega, hkkl, rfl, hR, ht4⟩, by simp [intOf]; omega⟩
        · have hkni : ¬ (k : Int) < (n : Int) := by omega
          have hd := hY.out.1.done (by omega)
          replace hd := Lib.hid hd
          go_wp2
          go_end0
          exact ⟨rfl, ⟨Y, hY.out.2, hd.out.1, hd.out.2⟩, ht3⟩

set_option maxRecDepth 100000 in
/-- SortStableFunc makes of any row what insertion makes of it. -/
theorem sorts_any (F : Nat) (cf : Fr → Fr → Int) (hF : ∀ (args : Array Value) (w : World), (callFunc F args).run Try.prog w = .ok (.enter F args) w)
    (hcf : ∀ (w : World) (x y : Fr), Calls Try.prog F #[frV x, frV y] w fun r w' => r = .returned (.int .i64 (cf x y)) ∧ Touch Nothing w w') (hw : Weak cf)
    (M : List Fr) (hl : M.length ≤ 1048576) : Sorts F cf M := by
  intro w g c hM
  have h49 := stable_any F cf hF hcf hw w g c M.length M hM rfl hl
  obtain ⟨res, hres⟩ : ∃ x, x = insS cf 0 M.length M := ⟨_, rfl⟩
  have hU : ∀ X, Srd cf X → St cf M X → X = res := fun X h1 h2 => by rw [hres]; exact st_insS hw h1 h2
  rw [← hres]
  obtain ⟨n, hn⟩ : ∃ n, n = M.length := ⟨_, rfl⟩
  rw [← hn] at h49 ⊢
  replace h49 := Lib.hid h49
  replace hU := Lib.hid hU
  clear hF hcf hw hl hM hres hn
  go_enter Try.func34, Try.ntmps34
  go_wp2_with (first | (go_at_call 49; refine h49.out.mono ?_; rintro r w2 ⟨rfl, hR, t2⟩; replace hR := Lib.hid hR))
  go_end0
  obtain ⟨X, h1, h2, h3⟩ := hR.out
  exact ⟨rfl, by rw [← hU.out X h2 h3]; exact h1, t2⟩

theorem weakFT : Weak cmpFT := by
  have e : ∀ x y : Fr, cmpFT x y < 0 ↔ x.f < y.f ∨ (x.f = y.f ∧ x.t < y.t) := by
    intro x y
    unfold cmpFT orI cmpI
    split <;> split <;> try split
    all_goals first | omega | (split <;> omega)
  exact ⟨fun x y h => by rw [e] at h ⊢; omega, fun x y z h1 h2 => by rw [e] at h1 h2 ⊢; omega⟩

end Go.Proofs.Ytkoplgpobagfoaa
