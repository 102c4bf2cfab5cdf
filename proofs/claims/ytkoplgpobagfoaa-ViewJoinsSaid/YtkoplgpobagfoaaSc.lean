/-
  symMerge, walked: the first stretch is one frame. Printed by mksc.py.
-/
import Derived.Test.YtkoplgpobagfoaaSb
namespace Go.Proofs.Ytkoplgpobagfoaa
open Go.RowKit
set_option linter.unusedVariables false
set_option linter.unusedSimpArgs false

section
variable {cf : Fr → Fr → Int}
theorem take_low (hw : Weak cf) {v : List Fr} (sv : Srd cf v) {s : Nat} (hs : s < v.length) {x : Fr} (h : cf v[s] x < 0) : ∀ y ∈ v.take (s + 1), cf y x < 0 := by
  intro y hy
  rw [List.take_succ_eq_append_getElem hs] at hy
  rcases List.mem_append.1 hy with h1 | h1
  · have sv2 : Srd cf (v.take s ++ v.drop s) := by rw [List.take_append_drop]; exact sv
    have := sv2.cross y h1 v[s] (by rw [List.drop_eq_getElem_cons hs]; exact List.mem_cons_self)
    refine Decidable.byContradiction fun q => ?_
    exact hw.ntr _ _ _ this q h
  · obtain rfl : y = v[s] := by simpa using h1
    exact h
theorem drop_high (hw : Weak cf) {v : List Fr} (sv : Srd cf v) {s : Nat} (hs : s < v.length) {x : Fr} (h : ¬ cf v[s] x < 0) : ∀ y ∈ v.drop s, ¬ cf y x < 0 := by
  intro y hy
  rw [List.drop_eq_getElem_cons hs] at hy
  rcases List.mem_cons.1 hy with rfl | h1
  · exact h
  · have sv2 : Srd cf (v.take (s + 1) ++ v.drop (s + 1)) := by rw [List.take_append_drop]; exact sv
    have := sv2.cross v[s] (by rw [List.take_succ_eq_append_getElem hs]; exact List.mem_append_right _ (List.mem_singleton.2 rfl)) y h1
    exact hw.ntr _ _ _ this h
theorem take_low2 (hw : Weak cf) {u : List Fr} (su : Srd cf u) {s : Nat} (hs : s < u.length) {y : Fr} (h : ¬ cf y u[s] < 0) : ∀ x ∈ u.take (s + 1), ¬ cf y x < 0 := by
  intro x hx
  rw [List.take_succ_eq_append_getElem hs] at hx
  rcases List.mem_append.1 hx with h1 | h1
  · have su2 : Srd cf (u.take s ++ u.drop s) := by rw [List.take_append_drop]; exact su
    have := su2.cross x h1 u[s] (by rw [List.drop_eq_getElem_cons hs]; exact List.mem_cons_self)
    exact hw.ntr _ _ _ h this
  · obtain rfl : x = u[s] := by simpa using h1
    exact h
theorem drop_high2 (hw : Weak cf) {u : List Fr} (su : Srd cf u) {s : Nat} (hs : s < u.length) {y : Fr} (h : cf y u[s] < 0) : ∀ x ∈ u.drop s, cf y x < 0 := by
  intro x hx
  rw [List.drop_eq_getElem_cons hs] at hx
  rcases List.mem_cons.1 hx with rfl | h1
  · exact h
  · have su2 : Srd cf (u.take (s + 1) ++ u.drop (s + 1)) := by rw [List.take_append_drop]; exact su
    have := su2.cross u[s] (by rw [List.take_succ_eq_append_getElem hs]; exact List.mem_append_right _ (List.mem_singleton.2 rfl)) x h1
    refine Decidable.byContradiction fun q => ?_
    exact hw.ntr _ _ _ q this h

/-- One frame goes into the second stretch. -/
theorem into_right (hw : Weak cf) {x : Fr} {v : List Fr} (sv : Srd cf v) {p : Nat} (h1 : ∀ y ∈ v.take p, cf y x < 0) (h2 : ∀ y ∈ v.drop p, ¬ cf y x < 0) :
    Srd cf (v.take p ++ x :: v.drop p) ∧ St cf ([x] ++ v) (v.take p ++ x :: v.drop p) := by
  have sv2 : Srd cf (v.take p ++ v.drop p) := by rw [List.take_append_drop]; exact sv
  refine ⟨sv2.left.append (List.pairwise_cons.2 ⟨h2, sv2.right⟩) fun y hy z hz => ?_, ?_⟩
  · rcases List.mem_cons.1 hz with rfl | hz
    · exact hw.asy _ _ (h1 y hy)
    · exact sv2.cross y hy z hz
  · have e := (St.swap hw (u := [x]) (v := v.take p) (fun a ha y hy => by have e : a = x := List.mem_singleton.1 ha; rw [e]; exact h1 y hy)).append (St.refl (v.drop p))
    rw [List.append_assoc, List.take_append_drop] at e
    simpa using e
/-- One frame goes into the first stretch. -/
theorem into_left (hw : Weak cf) {y : Fr} {u : List Fr} (su : Srd cf u) {p : Nat} (h1 : ∀ x ∈ u.take p, ¬ cf y x < 0) (h2 : ∀ x ∈ u.drop p, cf y x < 0) :
    Srd cf (u.take p ++ y :: u.drop p) ∧ St cf (u ++ [y]) (u.take p ++ y :: u.drop p) := by
  have su2 : Srd cf (u.take p ++ u.drop p) := by rw [List.take_append_drop]; exact su
  refine ⟨su2.left.append (List.pairwise_cons.2 ⟨fun x hx => hw.asy _ _ (h2 x hx), su2.right⟩) fun x hx z hz => ?_, ?_⟩
  · rcases List.mem_cons.1 hz with rfl | hz
    · exact h1 x hx
    · exact su2.cross x hx z hz
  · have e := (St.refl (u.take p)).append (St.swap hw (u := u.drop p) (v := [y]) (fun x hx a ha => by have e : a = y := List.mem_singleton.1 ha; rw [e]; exact h2 x hx))
    rw [← List.append_assoc, List.take_append_drop] at e
    simpa using e
end

/-- What a call that merges leaves. -/
def Merged (cf : Fr → Fr → Int) (w : World) (g : Nat) (A X D : List Fr) (r : Ending) (w' : World) : Prop :=
  r = .returned (.tuple #[]) ∧ (∃ Z, RowF w' g (A ++ (Z ++ D)) ∧ Srd cf Z ∧ St cf X Z) ∧ Touch (fun k => k = g) w w'

theorem half_facts (i j h n : Nat) (hi : i ≤ n) (hj : j ≤ n) (hn : n ≤ 1048576) (hh : h = (i + j) / 2) : IntKind.i64.wrap ((i : Int) + (j : Int)) = (i : Int) + (j : Int) ∧ IntKind.u64.wrap ((i : Int) + (j : Int)) = (i : Int) + (j : Int) ∧ ((i : Int) + (j : Int)) / 2 = (h : Int) ∧ IntKind.i64.wrap (h : Int) = (h : Int) ∧ IntKind.u64.wrap (h : Int) = (h : Int) := by
  refine ⟨wraps_i64 _ (by omega) (by omega), ?_, by omega, wraps_i64 _ (by omega) (by omega), ?_⟩
  · rw [IntKind.wrap_u64]; omega
  · rw [IntKind.wrap_u64]; omega

set_option maxRecDepth 100000 in
set_option maxHeartbeats 6400000 in
theorem sym_left (F : Nat) (cf : Fr → Fr → Int) (hF : ∀ (args : Array Value) (w : World), (callFunc F args).run Try.prog w = .ok (.enter F args) w)
    (hcf : ∀ (w : World) (x y : Fr), Calls Try.prog F #[frV x, frV y] w fun r w' => r = .returned (.int .i64 (cf x y)) ∧ Touch Nothing w w') (hw : Weak cf)
    (w : World) (g c : Nat) (A : List Fr) (x : Fr) (v D : List Fr) (n a m b : Nat) (ha : a = A.length) (hm : m = a + 1) (hb : b = m + v.length) (hn : n = b + D.length) (sv : Srd cf v) (hR : RowF w g (A ++ (x :: (v ++ D)))) (hnl : n ≤ 1048576) :
    Calls Try.prog 55 #[.slice (some ⟨g, 0, none⟩) n c, .int .i64 (a : Int), .int .i64 (m : Int), .int .i64 (b : Int), .func (.func F) #[] #[]] w (Merged cf w g A ([x] ++ v) D) := by
  have hx0 : ∀ w', RowF w' g (A ++ (x :: (v ++ D))) → w'.rangeAt g (a * 4) (frCs x) := fun w' h => by
    have := row_at h (at_left A x (v ++ D))
    rw [← ha] at this
    exact this
  have hv0 : ∀ w', RowF w' g (A ++ (x :: (v ++ D))) → ∀ s (hs : s < v.length), w'.rangeAt g ((m + s) * 4) (frCs v[s]) := fun w' h s hs => by
    refine row_at h ?_
    rw [List.getElem?_append_right (by omega), show m + s - A.length = s + 1 by omega, List.getElem?_cons_succ, List.getElem?_append_left hs, List.getElem?_eq_getElem hs]
  have x1 : (m : Int) - (a : Int) = 1 := by omega
  have hbm : b ≤ n := by omega
  have hmb : m ≤ b := by omega
  have ham : a < m := by omega
  replace hF := Lib.hid hF
  replace hcf := Lib.hid hcf
  replace hw := Lib.hid hw
  replace sv := Lib.hid sv
  replace ha := Lib.hid ha
  replace hm := Lib.hid hm
  replace hb := Lib.hid hb
  replace hn := Lib.hid hn
  replace hR := Lib.hid hR
  obtain ⟨X0, hX0⟩ : ∃ X, X = A ++ (x :: (v ++ D)) := ⟨_, rfl⟩
  rw [← hX0] at hR hx0 hv0
  have hXl : X0.length = n := by rw [hX0, hn.out, hb.out, hm.out, ha.out]; simp; omega
  replace hX0 := Lib.hid hX0
  replace hx0 := Lib.hid hx0
  replace hv0 := Lib.hid hv0
  go_enter Try.func55, Try.ntmps55
  go_wp2
  clear x1
  go_loopw [10, 11, 12] (fun iv jv _ wr => ∃ i j : Nat, m ≤ i ∧ i ≤ j ∧ j ≤ b ∧ iv = .int .i64 (i : Int) ∧ jv = .int .i64 (j : Int) ∧ Hid (RowF wr g X0) ∧ Touch (fun k => k = g) w wr ∧ Hid ((∀ y ∈ v.take (i - m), cf y x < 0) ∧ (∀ y ∈ v.drop (j - m), ¬ cf y x < 0))) (fun iv jv _ _ => (intOf jv).toNat - (intOf iv).toNat)
  case atStart => exact ⟨m, b, Nat.le_refl _, hmb, Nat.le_refl _, rfl, rfl, hR, Touch.refl _ _, Lib.hid ⟨by simp, by rw [show b - m = v.length by rw [hb.out]; omega, List.drop_length]; simp⟩⟩
  case round =>
    obtain ⟨i, j, hmi, hij, hjb, rfl, rfl, hX, ht, hI⟩ := hrel
    by_cases hlt : i < j
    · have hlti : (i : Int) < (j : Int) := by omega
      obtain ⟨h, hh⟩ : ∃ h, h = (i + j) / 2 := ⟨_, rfl⟩
      obtain ⟨z1, z2, z3, z4, z5⟩ := half_facts i j h n (by omega) (by omega) hnl hh
      have hih : i ≤ h := by omega
      have hhj : h < j := by omega
      have z6 : IntKind.i64.wrap ((h : Int) + 1) = (h : Int) + 1 := wraps_i64 _ (by omega) (by omega)
      replace hh := Lib.hid hh
      have hsv : h - m < v.length := by have := hb.out; omega
      have ry := fun (w' : World) (q : RowF w' g X0) => hv0.out w' q (h - m) hsv
      rw [show m + (h - m) = h by omega] at ry
      obtain ⟨y, hy⟩ : ∃ y, y = v[h - m] := ⟨_, rfl⟩
      rw [← hy] at ry
      have rx := hx0.out
      obtain ⟨bb, hbb⟩ : ∃ bb, bb = decide (cf y x < 0) := ⟨_, rfl⟩
      replace hbb := Lib.hid hbb
      replace hy := Lib.hid hy
      go_upto_region 5 with fail
      go_cut [50] (fun v wx => v = .bool bb ∧ RowF wx g X0 ∧ Touch Nothing wr wx)
      case first =>
        refine wp_region_held_drew (S := fun w' => RowF w' g X0 ∧ Touch Nothing wr w') (by kernel_rfl) ⟨hX.out, (Touch.refl Nothing wr).drew⟩ (fun hS0 => ?_)
        refine d_value (i := 0) rfl (by kernel_rfl) (by kernel_rfl) (by kernel_rfl) rfl (fun _ _ _ h => h) (fun w9 hS => run_move rfl rfl) hS0 ?_
        simp only [Act.put, List.setIfInBounds_toArray, List.set_cons_zero, List.set_cons_succ]
        refine d_value (i := 1) rfl (by kernel_rfl) (by kernel_rfl) (by kernel_rfl) rfl (fun _ _ _ h => h) (fun w9 hS => run_move rfl rfl) hS0 ?_
        simp only [Act.put, List.setIfInBounds_toArray, List.set_cons_zero, List.set_cons_succ]
        refine d_value (i := 2) rfl (by kernel_rfl) (by kernel_rfl) (by kernel_rfl) rfl (fun _ _ _ h => h) (fun w9 hS => run_move rfl rfl) hS0 ?_
        simp only [Act.put, List.setIfInBounds_toArray, List.set_cons_zero, List.set_cons_succ]
        refine d_value (i := 3) rfl (by kernel_rfl) (by kernel_rfl) (by kernel_rfl) rfl (fun _ _ _ h => h) (fun w9 hS => run_ia22 (h) rfl rfl rfl rfl (by omega)) hS0 ?_
        simp only [Act.put, List.setIfInBounds_toArray, List.set_cons_zero, List.set_cons_succ]
        refine d_value (i := 4) rfl (by kernel_rfl) (by kernel_rfl) (by kernel_rfl) rfl (fun _ _ _ h => h) (fun w9 hS => run_ldF (f := y) rfl rfl (ry w9 hS.1)) hS0 ?_
        simp only [Act.put, List.setIfInBounds_toArray, List.set_cons_zero, List.set_cons_succ]
        refine d_value (i := 5) rfl (by kernel_rfl) (by kernel_rfl) (by kernel_rfl) rfl (fun _ _ _ h => h) (fun w9 hS => run_move rfl rfl) hS0 ?_
        simp only [Act.put, List.setIfInBounds_toArray, List.set_cons_zero, List.set_cons_succ]
        refine d_value (i := 6) rfl (by kernel_rfl) (by kernel_rfl) (by kernel_rfl) rfl (fun _ _ _ h => h) (fun w9 hS => run_move rfl rfl) hS0 ?_
        simp only [Act.put, List.setIfInBounds_toArray, List.set_cons_zero, List.set_cons_succ]
        refine d_value (i := 7) rfl (by kernel_rfl) (by kernel_rfl) (by kernel_rfl) rfl (fun _ _ _ h => h) (fun w9 hS => run_ia22 (a) rfl rfl rfl rfl (by omega)) hS0 ?_
        simp only [Act.put, List.setIfInBounds_toArray, List.set_cons_zero, List.set_cons_succ]
        refine d_value (i := 8) rfl (by kernel_rfl) (by kernel_rfl) (by kernel_rfl) rfl (fun _ _ _ h => h) (fun w9 hS => run_ldF (f := x) rfl rfl (rx w9 hS.1)) hS0 ?_
        simp only [Act.put, List.setIfInBounds_toArray, List.set_cons_zero, List.set_cons_succ]
        refine d_call (args := #[frV y, frV x]) (i := 9) (by kernel_rfl) rfl rfl hF.out rfl _ rfl #[] rfl rfl (hcf.out _ y x) (fun _ t => ⟨hS0.1.keep t (fun q => q), hS0.2.trans' t⟩) (fun wn tn => ?_)
        simp only [Act.put, List.setIfInBounds_toArray, List.set_cons_zero, List.set_cons_succ]
        replace hS0 : RowF wn g X0 ∧ Touch Nothing wr wn := ⟨hS0.1.keep tn (fun q => q), hS0.2.trans' tn⟩
        refine d_value (i := 10) rfl (by kernel_rfl) (by kernel_rfl) (by kernel_rfl) rfl (fun _ _ _ h => h) (fun w9 hS => run_lss bb rfl rfl rfl hbb.out.symm) hS0 ?_
        simp only [Act.put, List.setIfInBounds_toArray, List.set_cons_zero, List.set_cons_succ]
        refine wpAnyH_done (by kernel_rfl) ?_ _
        have hh2 := Lib.hid hS0
        clear hS0 tn ht ry rx hX
        go_wp2_with fail
        go_meet
        exact ⟨rfl, hh2.out.1, hh2.out.2⟩
      case rest =>
      obtain ⟨rfl, hX4, t4⟩ := hcut
      obtain ⟨w4, ew4⟩ : ∃ v : World, v = wc := ⟨_, rfl⟩
      rw [← ew4] at hX4 t4 ⊢
      clear ew4 wc
      have ht5 : Touch (fun k => k = g) w w4 := ht.trans' (t4.mono fun _ _ q => q.elim)
      replace hX4 := Lib.hid hX4
      cases bb
      · have hI2 : Hid ((∀ y ∈ v.take (i - m), cf y x < 0) ∧ (∀ y ∈ v.drop (h - m), ¬ cf y x < 0)) := Lib.hid ⟨hI.out.1, drop_high hw.out sv.out hsv (by rw [← hy.out]; exact of_decide_eq_false hbb.out.symm)⟩
        clear hI hX t4 ht rx ry hy hbb
        go_wp2
        exact ⟨⟨i, h, hmi, hih, by omega, rfl, rfl, hX4, ht5, hI2⟩, by simp [intOf]; omega⟩
      · have hI2 : Hid ((∀ y ∈ v.take (h + 1 - m), cf y x < 0) ∧ (∀ y ∈ v.drop (j - m), ¬ cf y x < 0)) := Lib.hid ⟨by rw [show h + 1 - m = (h - m) + 1 by omega]; exact take_low hw.out sv.out hsv (by rw [← hy.out]; exact of_decide_eq_true hbb.out.symm), hI.out.2⟩
        clear hI hX t4 ht rx ry hy hbb
        go_wp2
        exact ⟨⟨h + 1, j, by omega, by omega, hjb, by simp, rfl, hX4, ht5, hI2⟩, by simp [intOf]; omega⟩
    · obtain rfl : i = j := by omega
      obtain ⟨hI1, hI2⟩ := into_right hw.out sv.out hI.out.1 hI.out.2
      have hlp : (v.take (i - m)).length = i - m := by rw [List.length_take]; have := hb.out; omega
      obtain ⟨p, hp⟩ : ∃ p, p = i - m := ⟨_, rfl⟩
      rw [← hp] at hI1 hI2 hlp
      have hi : i = a + 1 + p := by have := hm.out; omega
      have x1 : (i : Int) - 1 = ((a + p : Nat) : Int) := by omega
      have x2 : IntKind.i64.wrap ((a + p : Nat) : Int) = ((a + p : Nat) : Int) := wraps_i64 _ (by omega) (by omega)
      obtain ⟨e, he⟩ : ∃ e, e = a + p := ⟨_, rfl⟩
      rw [← he] at x1 x2
      have hpl : p ≤ v.length := by rw [List.length_take] at hlp; omega
      have hst0 : Hid (RowF wr g (A ++ (v.take (a - a) ++ x :: (v.drop (a - a) ++ D)))) := Lib.hid (by rw [Nat.sub_self, List.take_zero, List.drop_zero, List.nil_append]; rw [hX0.out] at hX; exact hX.out)
      have hae : a ≤ e := by omega
      have hen : e < n := by omega
      replace hI1 := Lib.hid hI1
      replace hI2 := Lib.hid hI2
      replace hlp := Lib.hid hlp
      replace hp := Lib.hid hp
      replace hi := Lib.hid hi
      replace he := Lib.hid he
      replace hpl := Lib.hid hpl
      clear hI hX
      go_wp2
      go_loopw [13] (fun kv wr => ∃ k : Nat, a ≤ k ∧ k ≤ e ∧ kv = .int .i64 (k : Int) ∧ Hid (RowF wr g (A ++ (v.take (k - a) ++ x :: (v.drop (k - a) ++ D)))) ∧ Touch (fun k => k = g) w wr) (fun kv _ => e - (intOf kv).toNat)
      case atStart => exact ⟨a, Nat.le_refl _, hae, rfl, hst0, ht⟩
      case round =>
        clear hst0 ht
        obtain ⟨k, hak, hke, rfl, hX, ht⟩ := hrel
        by_cases hlk : k < e
        · have hlki : (k : Int) < (e : Int) := by omega
          obtain ⟨t, htk⟩ : ∃ t, k = a + t := ⟨k - a, by omega⟩
          have htv : t < v.length := by have := he.out; have := hpl.out; omega
          obtain ⟨y, hy⟩ : ∃ y, y = v[t] := ⟨_, rfl⟩
          have hf : A ++ (v.take (k - a) ++ x :: (v.drop (k - a) ++ D)) = (A ++ v.take t) ++ x :: ([] ++ y :: (v.drop (t + 1) ++ D)) := by
            rw [show k - a = t by omega, List.drop_eq_getElem_cons htv, ← hy]
            simp only [List.append_assoc, List.cons_append, List.nil_append]
          have hg : (A ++ v.take t) ++ y :: ([] ++ x :: (v.drop (t + 1) ++ D)) = A ++ (v.take (k + 1 - a) ++ x :: (v.drop (k + 1 - a) ++ D)) := by
            rw [show k + 1 - a = t + 1 by omega, List.take_succ_eq_append_getElem htv, ← hy]
            simp only [List.append_assoc, List.cons_append, List.nil_append]
          have hl1 : (A ++ v.take t).length = k := by rw [List.length_append, List.length_take]; have := ha.out; omega
          have e0 := at_left (A ++ v.take t) x ([] ++ y :: (v.drop (t + 1) ++ D))
          have e1 := at_right (A ++ v.take t) x [] y (v.drop (t + 1) ++ D)
          have e2 := exch2 (A ++ v.take t) x [] y (v.drop (t + 1) ++ D)
          rw [List.length_nil, Nat.add_zero, hl1] at e1 e2
          rw [hl1] at e0
          rw [← hf] at e0 e1 e2
          rw [hg] at e2
          have hXl2 : (A ++ (v.take (k - a) ++ x :: (v.drop (k - a) ++ D))).length = n := by
            rw [hf, hn.out, hb.out, hm.out, ha.out]
            simp
            have := ha.out
            omega
          obtain ⟨X, hXe⟩ : ∃ X, X = A ++ (v.take (k - a) ++ x :: (v.drop (k - a) ++ D)) := ⟨_, rfl⟩
          rw [← hXe] at hX e0 e1 e2 hXl2
          have hpa : k < X.length := by omega
          have hpb : k + 1 < X.length := by omega
          have rx := fun (w' : World) (h : RowF w' g X) => row_at h e0
          have ry := fun (w' : World) (h : RowF w' g X) => row_at h e1
          replace e2 := Lib.hid e2
          replace htk := Lib.hid htk
          clear hf hg hl1 e0 e1 hXe hy
          go_upto_region 11 with fail
          refine wp_region_stage (S := fun w' => RowF w' g X) (by kernel_rfl) ?_
          have hS0 : RowF wr.drew g X := hX.out
          refine g_pure (i := 0) rfl (by kernel_rfl) (by kernel_rfl) (by kernel_rfl) (by kernel_rfl) rfl (fun _ _ _ h => h) (fun w9 => run_move rfl rfl) (fun _ => hS0) ?_
          simp only [Act.put, List.setIfInBounds_toArray, List.set_cons_zero, List.set_cons_succ]
          refine g_pure (i := 1) rfl (by kernel_rfl) (by kernel_rfl) (by kernel_rfl) (by kernel_rfl) rfl (fun _ _ _ h => h) (fun w9 => run_move rfl rfl) (fun _ => hS0) ?_
          simp only [Act.put, List.setIfInBounds_toArray, List.set_cons_zero, List.set_cons_succ]
          refine g_pure (i := 2) rfl (by kernel_rfl) (by kernel_rfl) (by kernel_rfl) (by kernel_rfl) rfl (fun _ _ _ h => h) (fun w9 => run_move rfl rfl) (fun _ => hS0) ?_
          simp only [Act.put, List.setIfInBounds_toArray, List.set_cons_zero, List.set_cons_succ]
          refine g_pure (i := 3) rfl (by kernel_rfl) (by kernel_rfl) (by kernel_rfl) (by kernel_rfl) rfl (fun _ _ _ h => h) (fun w9 => run_move rfl rfl) (fun _ => hS0) ?_
          simp only [Act.put, List.setIfInBounds_toArray, List.set_cons_zero, List.set_cons_succ]
          refine g_pure (i := 4) rfl (by kernel_rfl) (by kernel_rfl) (by kernel_rfl) (by kernel_rfl) rfl (fun _ _ _ h => h) (fun w9 => run_add ((k + 1 : Nat) : Int) rfl rfl rfl (by omega) (by omega) (by omega)) (fun _ => hS0) ?_
          simp only [Act.put, List.setIfInBounds_toArray, List.set_cons_zero, List.set_cons_succ]
          refine g_pure (i := 5) rfl (by kernel_rfl) (by kernel_rfl) (by kernel_rfl) (by kernel_rfl) rfl (fun _ _ _ h => h) (fun w9 => run_move rfl rfl) (fun _ => hS0) ?_
          simp only [Act.put, List.setIfInBounds_toArray, List.set_cons_zero, List.set_cons_succ]
          refine g_pure (i := 6) rfl (by kernel_rfl) (by kernel_rfl) (by kernel_rfl) (by kernel_rfl) rfl (fun _ _ _ h => h) (fun w9 => run_move rfl rfl) (fun _ => hS0) ?_
          simp only [Act.put, List.setIfInBounds_toArray, List.set_cons_zero, List.set_cons_succ]
          refine g_pure (i := 7) rfl (by kernel_rfl) (by kernel_rfl) (by kernel_rfl) (by kernel_rfl) rfl (fun _ _ _ h => h) (fun w9 => run_add ((k + 1 : Nat) : Int) rfl rfl rfl (by omega) (by omega) (by omega)) (fun _ => hS0) ?_
          simp only [Act.put, List.setIfInBounds_toArray, List.set_cons_zero, List.set_cons_succ]
          refine g_pure (i := 8) rfl (by kernel_rfl) (by kernel_rfl) (by kernel_rfl) (by kernel_rfl) rfl (fun _ _ _ h => h) (fun w9 => run_ia22 (k + 1) rfl rfl rfl rfl (by omega)) (fun _ => hS0) ?_
          simp only [Act.put, List.setIfInBounds_toArray, List.set_cons_zero, List.set_cons_succ]
          refine g_read (i := 9) rfl (by kernel_rfl) (by kernel_rfl) (by kernel_rfl) (by kernel_rfl) (by kernel_rfl) rfl (fun _ _ _ h => h) (fun w9 hS => run_ldF (f := y) rfl rfl (ry w9 hS)) hS0 ?_
          simp only [Act.put, List.setIfInBounds_toArray, List.set_cons_zero, List.set_cons_succ]
          refine g_pure (i := 10) rfl (by kernel_rfl) (by kernel_rfl) (by kernel_rfl) (by kernel_rfl) rfl (fun _ _ _ h => h) (fun w9 => run_move rfl rfl) (fun _ => hS0) ?_
          simp only [Act.put, List.setIfInBounds_toArray, List.set_cons_zero, List.set_cons_succ]
          refine g_pure (i := 11) rfl (by kernel_rfl) (by kernel_rfl) (by kernel_rfl) (by kernel_rfl) rfl (fun _ _ _ h => h) (fun w9 => run_move rfl rfl) (fun _ => hS0) ?_
          simp only [Act.put, List.setIfInBounds_toArray, List.set_cons_zero, List.set_cons_succ]
          refine g_pure (i := 12) rfl (by kernel_rfl) (by kernel_rfl) (by kernel_rfl) (by kernel_rfl) rfl (fun _ _ _ h => h) (fun w9 => run_ia22 (k) rfl rfl rfl rfl (by omega)) (fun _ => hS0) ?_
          simp only [Act.put, List.setIfInBounds_toArray, List.set_cons_zero, List.set_cons_succ]
          refine g_read (i := 13) rfl (by kernel_rfl) (by kernel_rfl) (by kernel_rfl) (by kernel_rfl) (by kernel_rfl) rfl (fun _ _ _ h => h) (fun w9 hS => run_ldF (f := x) rfl rfl (rx w9 hS)) hS0 ?_
          simp only [Act.put, List.setIfInBounds_toArray, List.set_cons_zero, List.set_cons_succ]
          refine g_pure (i := 14) rfl (by kernel_rfl) (by kernel_rfl) (by kernel_rfl) (by kernel_rfl) rfl (fun _ _ _ h => h) (fun w9 => run_ia22 (k) rfl rfl rfl rfl (by omega)) (fun _ => hS0) ?_
          simp only [Act.put, List.setIfInBounds_toArray, List.set_cons_zero, List.set_cons_succ]
          refine g_store (i := 15) (by kernel_rfl) (by kernel_rfl) rfl rfl (fun K hK => wp_stF (f := y) (L := X) (i := k) rfl rfl rfl hS0 hpa (fun wa haa ta => hK _ _ ?_))
          clear hK K
          simp only [Act.put, List.setIfInBounds_toArray, List.set_cons_zero, List.set_cons_succ]
          refine g_late (i := 16) rfl (by kernel_rfl) (by kernel_rfl) (by kernel_rfl) (by kernel_rfl) rfl (fun _ _ _ h => h) (fun w9 => run_ia22 (k + 1) rfl rfl rfl rfl (by omega)) (by kernel_rfl) ?_
          simp only [Act.put, List.setIfInBounds_toArray, List.set_cons_zero, List.set_cons_succ]
          refine g_store (i := 17) (by kernel_rfl) (by kernel_rfl) rfl rfl (fun K hK => wp_stF (f := x) (L := X.set (k) y) (i := k + 1) rfl rfl rfl haa (by rw [List.length_set]; exact hpb) (fun wb hb2 tb => hK _ _ ?_))
          clear hK K
          simp only [Act.put, List.setIfInBounds_toArray, List.set_cons_zero, List.set_cons_succ]
          refine AnyG.done (by kernel_rfl) ?_ _
          rw [e2.out] at hb2
          have t9 := (ht.drew.trans' ta).trans' tb
          replace hb2 := Lib.hid hb2
          clear hS0 haa ta tb ht hX rx ry
          have e3 : IntKind.i64.wrap ((k : Int) + 1) = (k : Int) + 1 := by rw [IntKind.wrap_i64]; omega
          go_wp2
          exact ⟨⟨k + 1, by omega, by omega, by simp, hb2, t9⟩, by simp [intOf]; omega⟩
        · obtain rfl : k = e := by omega
          have hfin : RowF wr g (A ++ ((v.take p ++ x :: v.drop p) ++ D)) := by
            have := hX.out
            rw [show k - a = p by have := he.out; omega] at this
            simpa using this
          replace hfin := Lib.hid hfin
          clear hX
          go_wp2
          go_end0
          exact ⟨rfl, ⟨_, hfin.out, hI1.out, hI2.out⟩, ht⟩

end Go.Proofs.Ytkoplgpobagfoaa
