/-
  Layer 11 (mail): a message; which may be: Check, walked.
-/
import Derived.Test.YtoegkcjclgmnbaaMb
import Derived.BigQuiet
import Derived.Deep.QuietTactic
namespace Go.Proofs.Ytoegkcjclgmnbaa
open Go.RowKit
set_option linter.unusedVariables false
set_option linter.unusedSimpArgs false

/-- A message: kind, user, number, text, tag, slots, ids. -/
structure Ml where
  k : Int
  u : Int
  q : Int
  x : ByteArray
  g : ByteArray
  s : List (ByteArray × ByteArray)
  i : List ByteArray

def e0 : ByteArray := ⟨#[]⟩
def whoM (m : Ml) : Bool := decide (0 ≤ m.u) && (decide (m.u < 64) && (decide (1 ≤ m.q) && decide (m.q ≤ 2147483647)))
def nobM (m : Ml) : Bool := decide (m.u = 0) && decide (m.q = 0)
/-- Which messages may be. -/
def chkM (m : Ml) : Bool :=
  if m.k = 1 then nobM m && (decide (m.x.size = 504) && (decide (m.g = e0) && (decide (m.s.length = 0) && decide (m.i.length = 0))))
  else if m.k = 2 then whoM m && (decide (m.x = e0) && (decide (m.g.size = 32) && (decide (m.s.length = 0) && decide (m.i.length = 0))))
  else if m.k = 3 then whoM m && (decide (m.x = e0) && (decide (m.g = e0) && (filled m.s && decide (m.i.length = 0))))
  else if m.k = 4 then whoM m && (decide (m.x = e0) && (decide (m.g.size = 32) && (decide (m.s.length = 0) && (decide (m.i.length ≤ 4) && !(m.i.any (fun s => !isId s))))))
  else false

def mlCs (m : Ml) (ps : Option Addr) (cs : Nat) (pi : Option Addr) (ci : Nat) : List Value := [.int .i64 m.k, .int .i64 m.u, .int .i64 m.q, .string m.x, .string m.g, .slice ps m.s.length cs, .slice pi m.i.length ci]
/-- v reads as this message. -/
def MlA (w : World) (v : Value) (m : Ml) : Prop := ∃ ps cs pi ci, v = .agg (mlCs m ps cs pi ci).toArray ∧ SlSl w ps cs m.s ∧ StrSl w pi ci m.i
theorem MlA.keep {w w' : World} {v : Value} {m : Ml} (h : MlA w v m) (ht : Touch Nothing w w') : MlA w' v m := by
  obtain ⟨ps, cs, pi, ci, e, h1, h2⟩ := h
  exact ⟨ps, cs, pi, ci, e, h1.keep ht, h2.keep0 ht⟩

theorem e0_list : e0.toList = [] := by rw [ByteArray.toList_eq]; rfl

theorem dec_int (a b : Nat) : decide (a = b) = ((a : Int) == (b : Int)) := by
  by_cases h : a = b
  · subst h; simp
  · have : ¬ (a : Int) = (b : Int) := by omega
    simp [h, this]

theorem cell_at {w : World} {g : Nat} {cs : Array Value} {t : TypeId} {f : Nat × Nat} (h : w.heap[g]? = some (.cells cs t f)) (i : Nat) : w.cell? ⟨g, i, none⟩ = cs[i]? := by
  simp [World.cell?, h]

set_option maxRecDepth 100000 in
set_option maxHeartbeats 3200000 in
theorem Check_any (w : World) (v : Value) (m : Ml) (h : MlA w v m) (hl : m.s.length ≤ 4611686018427387904) (hl2 : m.i.length ≤ 4611686018427387904) :
    Calls Try.prog 34 #[v] w fun r w' => r = .returned (.int .i64 (if chkM m = true then 0 else 110)) ∧ Touch Nothing w w' := by
  obtain ⟨ps, cs, pi, ci, rfl, hS, hI⟩ := h
  obtain ⟨res, hres⟩ : ∃ b, b = chkM m := ⟨_, rfl⟩
  rw [← hres]
  obtain ⟨mk, mu, mq, mx, mg, ms, mi⟩ := m
  unfold chkM at hres
  obtain ⟨bw, hbw⟩ : ∃ b, b = whoM ⟨mk, mu, mq, mx, mg, ms, mi⟩ := ⟨_, rfl⟩
  obtain ⟨bn, hbn⟩ : ∃ b, b = nobM ⟨mk, mu, mq, mx, mg, ms, mi⟩ := ⟨_, rfl⟩
  rw [← hbw, ← hbn] at hres
  unfold mlCs
  simp only [] at hres hS hI hl hl2 ⊢
  unfold whoM at hbw
  unfold nobM at hbn
  simp only [] at hbw hbn
  obtain ⟨bx, hbx⟩ : ∃ b, b = decide (mx = e0) := ⟨_, rfl⟩
  obtain ⟨bg, hbg⟩ : ∃ b, b = decide (mg = e0) := ⟨_, rfl⟩
  have hx2 : (mx.toList == []) = bx := by rw [hbx, ← bytes_eq, e0_list]
  have hg2 : (mg.toList == []) = bg := by rw [hbg, ← bytes_eq, e0_list]
  rw [← hbx, ← hbg] at hres
  have hF := fun w' (t : Touch Nothing w w') => filled_any w' ps cs ms (hS.keep t) hl
  have hG := fun w' (t : Touch Nothing w w') => stranger_any w' pi ci mi (hI.keep0 t) hl2
  obtain ⟨bf, hbf⟩ : ∃ b, b = filled ms := ⟨_, rfl⟩
  obtain ⟨bs, hbs⟩ : ∃ b, b = mi.any (fun s => !isId s) := ⟨_, rfl⟩
  rw [← hbf] at hF hres
  rw [← hbs] at hG hres
  obtain ⟨ns, hns⟩ : ∃ n, n = ms.length := ⟨_, rfl⟩
  obtain ⟨ni, hni⟩ : ∃ n, n = mi.length := ⟨_, rfl⟩
  rw [← hns] at hF hres ⊢
  rw [← hni] at hG hres ⊢
  have h9 := heap_alloc_new w (.cells #[.int .i64 mk, .int .i64 mu, .int .i64 mq, .string mx, .string mg, .slice ps ns cs, .slice pi ni ci] 49)
  have ta := (Touch.refl Nothing w).alloc (.cells #[.int .i64 mk, .int .i64 mu, .int .i64 mq, .string mx, .string mg, .slice ps ns cs, .slice pi ni ci] 49)
  obtain ⟨W, eW⟩ : ∃ W, W = w.alloc (.cells #[.int .i64 mk, .int .i64 mu, .int .i64 mq, .string mx, .string mg, .slice ps ns cs, .slice pi ni ci] 49) := ⟨_, rfl⟩
  obtain ⟨g, eg⟩ : ∃ g, g = w.heap.size := ⟨_, rfl⟩
  rw [← eW, ← eg] at h9
  rw [← eW] at ta
  replace hF := Lib.hid hF
  replace hG := Lib.hid hG
  replace hres := Lib.hid hres
  replace hbw := Lib.hid hbw
  replace hbn := Lib.hid hbn
  clear hS hI hbx hbg hbf hbs hns hni hl hl2
  replace hx2 := Lib.hid hx2
  replace hg2 := Lib.hid hg2
  go_enter Try.func34, Try.ntmps34
  go_upto_region 1 with fail
  rw [← eW, ← eg]
  have k0 : W.cell? ⟨g, 0, none⟩ = some (.int .i64 mk) := cell_at h9 0
  have k1 : W.cell? ⟨g, 1, none⟩ = some (.int .i64 mu) := cell_at h9 1
  have k2 : W.cell? ⟨g, 2, none⟩ = some (.int .i64 mq) := cell_at h9 2
  have k3 : W.cell? ⟨g, 3, none⟩ = some (.string mx) := cell_at h9 3
  have k4 : W.cell? ⟨g, 4, none⟩ = some (.string mg) := cell_at h9 4
  have k5 : W.cell? ⟨g, 5, none⟩ = some (.slice ps ns cs) := cell_at h9 5
  have k6 : W.cell? ⟨g, 6, none⟩ = some (.slice pi ni ci) := cell_at h9 6
  replace eW := Lib.hid eW
  replace eg := Lib.hid eg
  replace h9 := Lib.hid h9
  go_cut [3] (fun v wx => v = .bool bw ∧ wx = W)
  case first =>
    by_cases y1 : 0 ≤ mu
    · by_cases y2 : mu < 64
      · by_cases y3 : 1 ≤ mq
        · by_cases y4 : mq ≤ 2147483647
          · obtain rfl : bw = true := by rw [hbw.out]; simp [y1, y2, y3, y4]
            go_wp2
            go_meet
            exact ⟨rfl, rfl⟩
          · obtain rfl : bw = false := by rw [hbw.out]; simp [y4]
            have y5 : decide (mq ≤ 2147483647) = false := decide_eq_false y4
            go_wp2
            go_meet
            exact ⟨rfl, rfl⟩
        · obtain rfl : bw = false := by rw [hbw.out]; simp [y3]
          have y5 : decide (1 ≤ mq) = false := decide_eq_false y3
          go_wp2
          go_meet
          exact ⟨rfl, rfl⟩
      · obtain rfl : bw = false := by rw [hbw.out]; simp [y2]
        have y5 : decide (mu < 64) = false := decide_eq_false y2
        go_wp2
        go_meet
        exact ⟨rfl, rfl⟩
    · obtain rfl : bw = false := by rw [hbw.out]; simp [y1]
      have y5 : decide (0 ≤ mu) = false := decide_eq_false y1
      go_wp2
      go_meet
      exact ⟨rfl, rfl⟩
  case rest =>
  obtain ⟨rfl, ew⟩ := hcut
  rw [ew]
  clear ew wc
  go_upto_region 2 with fail
  go_cut [4] (fun v wx => v = .bool bn ∧ wx = W)
  case first =>
    by_cases y1 : mu = 0
    · have y1b : (mu == 0) = true := by simp [y1]
      by_cases y2 : mq = 0
      · have y2b : (mq == 0) = true := by simp [y2]
        obtain rfl : bn = true := by rw [hbn.out]; simp [y1, y2]
        replace y1 := Lib.hid y1
        replace y2 := Lib.hid y2
        go_wp2
        go_meet
        exact ⟨rfl, rfl⟩
      · have y2b : (mq == 0) = false := by simp [y2]
        obtain rfl : bn = false := by rw [hbn.out]; simp [y2]
        replace y1 := Lib.hid y1
        go_wp2
        go_meet
        exact ⟨rfl, rfl⟩
    · have y1b : (mu == 0) = false := by simp [y1]
      obtain rfl : bn = false := by rw [hbn.out]; simp [y1]
      go_wp2
      go_meet
      exact ⟨rfl, rfl⟩
  case rest =>
  obtain ⟨rfl, ew⟩ := hcut
  rw [ew]
  clear ew wc
  go_upto_region 3 with fail
  obtain ⟨bs0, fns⟩ : ∃ b, ((ns : Int) == 0) = b := ⟨_, rfl⟩
  obtain ⟨bi0, fni⟩ : ∃ b, ((ni : Int) == 0) = b := ⟨_, rfl⟩
  have hx3 : mx.toList.isEmpty = bx := by have := hx2.out; rw [← this]; cases mx.toList <;> rfl
  have hg3 : mg.toList.isEmpty = bg := by have := hg2.out; rw [← this]; cases mg.toList <;> rfl
  have hx4 := hx2.out
  have hg4 := hg2.out
  go_cut [5, 6, 7, 8] (fun a b c d wx => a = .bool bx ∧ b = .bool bg ∧ c = .bool bs0 ∧ d = .bool bi0 ∧ Touch Nothing W wx)
  case first =>
    go_quiet (fail)
    go_wp2
    go_meet
    exact ⟨rfl, rfl, rfl, rfl, (Touch.refl _ _).drewN _⟩
  case rest =>
  obtain ⟨rfl, rfl, rfl, rfl, tx⟩ := hcut
  obtain ⟨W2, eW2⟩ : ∃ W, W = wc := ⟨_, rfl⟩
  rw [← eW2] at tx ⊢
  have h29 := tx.heap h9.out (fun q => q)
  have t2 := ta.trans' tx
  clear eW2 wc tx k0 k1 k2 k3 k4 k5 k6 h9 hx3 hg3 hx4 hg4
  have k0 : W2.cell? ⟨g, 0, none⟩ = some (.int .i64 mk) := cell_at h29 0
  have k3 : W2.cell? ⟨g, 3, none⟩ = some (.string mx) := cell_at h29 3
  have k4 : W2.cell? ⟨g, 4, none⟩ = some (.string mg) := cell_at h29 4
  have k5 : W2.cell? ⟨g, 5, none⟩ = some (.slice ps ns cs) := cell_at h29 5
  have k6 : W2.cell? ⟨g, 6, none⟩ = some (.slice pi ni ci) := cell_at h29 6
  obtain ⟨b504, f504⟩ : ∃ b, ((mx.size : Int) == 504) = b := ⟨_, rfl⟩
  obtain ⟨b32, f32⟩ : ∃ b, ((mg.size : Int) == 32) = b := ⟨_, rfl⟩
  obtain ⟨b4, f4⟩ : ∃ b, decide ((ni : Int) ≤ 4) = b := ⟨_, rfl⟩
  have hr2 := hres.out
  have q1 : decide (mx.size = 504) = b504 := by rw [← f504]; exact dec_int _ _
  have q2 : decide (mg.size = 32) = b32 := by rw [← f32]; exact dec_int _ _
  have q3 : decide (ns = 0) = bs0 := by rw [← fns]; exact dec_int _ _
  have q4 : decide (ni = 0) = bi0 := by rw [← fni]; exact dec_int _ _
  have q5 : decide (ni ≤ 4) = b4 := by rw [← f4]; exact decide_eq_decide.2 (by omega)
  rw [q1, q2, q3, q4, q5] at hr2
  clear q1 q2 q3 q4 q5 hres hbw hbn hx2 hg2 h29
  replace hF := Lib.hid (hF.out W2 t2)
  replace hG := Lib.hid (hG.out W2 t2)
  replace t2 := Lib.hid t2
  by_cases y1 : mk = 1
  · rw [if_pos y1] at hr2
    subst y1
    replace hr2 := Lib.hid hr2
    cases bn
    · obtain rfl : res = false := by rw [hr2.out]; simp
      clear hr2
      go_upto_region 7 with fail
      go_quiet (fail)
      go_wp2
      go_ret
      exact ⟨rfl, t2.out.drewN _⟩
    · cases b504
      · obtain rfl : res = false := by rw [hr2.out]; simp
        clear hr2
        go_upto_region 7 with fail
        go_quiet (fail)
        go_wp2
        go_ret
        exact ⟨rfl, t2.out.drewN _⟩
      · cases bg
        · obtain rfl : res = false := by rw [hr2.out]; simp
          clear hr2
          go_upto_region 7 with fail
          go_quiet (fail)
          go_wp2
          go_ret
          exact ⟨rfl, t2.out.drewN _⟩
        · cases bs0
          · obtain rfl : res = false := by rw [hr2.out]; simp
            clear hr2
            go_upto_region 7 with fail
            go_quiet (fail)
            go_wp2
            go_ret
            exact ⟨rfl, t2.out.drewN _⟩
          · cases bi0
            · obtain rfl : res = false := by rw [hr2.out]; simp
              clear hr2
              go_upto_region 7 with fail
              go_quiet (fail)
              go_wp2
              go_ret
              exact ⟨rfl, t2.out.drewN _⟩
            · obtain rfl : res = true := by rw [hr2.out]; rfl
              clear hr2
              go_upto_region 7 with fail
              go_quiet (fail)
              go_wp2
              go_ret
              exact ⟨rfl, t2.out.drewN _⟩
  · rw [if_neg y1] at hr2
    have z1 : (mk == 1) = false := by simp [y1]
    by_cases y2 : mk = 2
    · rw [if_pos y2] at hr2
      subst y2
      replace hr2 := Lib.hid hr2
      cases bw
      · obtain rfl : res = false := by rw [hr2.out]; simp
        clear hr2
        go_wp2
        go_ret
        exact ⟨rfl, t2.out⟩
      · cases bx
        · obtain rfl : res = false := by rw [hr2.out]; simp
          clear hr2
          go_wp2
          go_ret
          exact ⟨rfl, t2.out⟩
        · cases b32
          · obtain rfl : res = false := by rw [hr2.out]; simp
            clear hr2
            go_wp2
            go_ret
            exact ⟨rfl, t2.out⟩
          · cases bs0
            · obtain rfl : res = false := by rw [hr2.out]; simp
              clear hr2
              go_wp2
              go_ret
              exact ⟨rfl, t2.out⟩
            · cases bi0
              · obtain rfl : res = false := by rw [hr2.out]; simp
                clear hr2
                go_wp2
                go_ret
                exact ⟨rfl, t2.out⟩
              · obtain rfl : res = true := by rw [hr2.out]; rfl
                clear hr2
                go_wp2
                go_ret
                exact ⟨rfl, t2.out⟩
    · rw [if_neg y2] at hr2
      have z2 : (mk == 2) = false := by simp [y2]
      by_cases y3 : mk = 3
      · rw [if_pos y3] at hr2
        subst y3
        replace hr2 := Lib.hid hr2
        cases bw
        · obtain rfl : res = false := by rw [hr2.out]; simp
          clear hr2
          go_wp2_with (first | (go_at_call 42; refine hF.out.mono ?_; rintro r w3 ⟨rfl, t3⟩))
          go_ret
          exact ⟨rfl, t2.out.trans' t3⟩
        · cases bx
          · obtain rfl : res = false := by rw [hr2.out]; simp
            clear hr2
            go_wp2_with (first | (go_at_call 42; refine hF.out.mono ?_; rintro r w3 ⟨rfl, t3⟩))
            go_ret
            exact ⟨rfl, t2.out.trans' t3⟩
          · cases bg
            · obtain rfl : res = false := by rw [hr2.out]; simp
              clear hr2
              go_wp2_with (first | (go_at_call 42; refine hF.out.mono ?_; rintro r w3 ⟨rfl, t3⟩))
              go_ret
              exact ⟨rfl, t2.out.trans' t3⟩
            · cases bf
              · obtain rfl : res = false := by rw [hr2.out]; simp
                clear hr2
                go_wp2_with (first | (go_at_call 42; refine hF.out.mono ?_; rintro r w3 ⟨rfl, t3⟩))
                go_ret
                exact ⟨rfl, t2.out.trans' t3⟩
              · cases bi0
                · obtain rfl : res = false := by rw [hr2.out]; simp
                  clear hr2
                  go_wp2_with (first | (go_at_call 42; refine hF.out.mono ?_; rintro r w3 ⟨rfl, t3⟩))
                  go_ret
                  exact ⟨rfl, t2.out.trans' t3⟩
                · obtain rfl : res = true := by rw [hr2.out]; rfl
                  clear hr2
                  go_wp2_with (first | (go_at_call 42; refine hF.out.mono ?_; rintro r w3 ⟨rfl, t3⟩))
                  go_ret
                  exact ⟨rfl, t2.out.trans' t3⟩
      · rw [if_neg y3] at hr2
        have z3 : (mk == 3) = false := by simp [y3]
        by_cases y4 : mk = 4
        · rw [if_pos y4] at hr2
          subst y4
          replace hr2 := Lib.hid hr2
          cases b4
          · cases bw
            · obtain rfl : res = false := by rw [hr2.out]; simp
              clear hr2
              go_wp2
              go_ret
              exact ⟨rfl, t2.out⟩
            · cases bx
              · obtain rfl : res = false := by rw [hr2.out]; simp
                clear hr2
                go_wp2
                go_ret
                exact ⟨rfl, t2.out⟩
              · cases b32
                · obtain rfl : res = false := by rw [hr2.out]; simp
                  clear hr2
                  go_wp2
                  go_ret
                  exact ⟨rfl, t2.out⟩
                · cases bs0
                  · obtain rfl : res = false := by rw [hr2.out]; simp
                    clear hr2
                    go_wp2
                    go_ret
                    exact ⟨rfl, t2.out⟩
                  · obtain rfl : res = false := by rw [hr2.out]; rfl
                    clear hr2
                    go_wp2
                    go_ret
                    exact ⟨rfl, t2.out⟩
          · cases bs
            · cases bw
              · obtain rfl : res = false := by rw [hr2.out]; simp
                clear hr2
                go_wp2_with (first | (go_at_call 43; refine hG.out.mono ?_; rintro r w3 ⟨rfl, rfl⟩))
                go_ret
                exact ⟨rfl, t2.out⟩
              · cases bx
                · obtain rfl : res = false := by rw [hr2.out]; simp
                  clear hr2
                  go_wp2_with (first | (go_at_call 43; refine hG.out.mono ?_; rintro r w3 ⟨rfl, rfl⟩))
                  go_ret
                  exact ⟨rfl, t2.out⟩
                · cases b32
                  · obtain rfl : res = false := by rw [hr2.out]; simp
                    clear hr2
                    go_wp2_with (first | (go_at_call 43; refine hG.out.mono ?_; rintro r w3 ⟨rfl, rfl⟩))
                    go_ret
                    exact ⟨rfl, t2.out⟩
                  · cases bs0
                    · obtain rfl : res = false := by rw [hr2.out]; simp
                      clear hr2
                      go_wp2_with (first | (go_at_call 43; refine hG.out.mono ?_; rintro r w3 ⟨rfl, rfl⟩))
                      go_ret
                      exact ⟨rfl, t2.out⟩
                    · obtain rfl : res = true := by rw [hr2.out]; rfl
                      clear hr2
                      go_wp2_with (first | (go_at_call 43; refine hG.out.mono ?_; rintro r w3 ⟨rfl, rfl⟩))
                      go_ret
                      exact ⟨rfl, t2.out⟩
            · cases bw
              · obtain rfl : res = false := by rw [hr2.out]; simp
                clear hr2
                go_wp2_with (first | (go_at_call 43; refine hG.out.mono ?_; rintro r w3 ⟨rfl, rfl⟩))
                go_ret
                exact ⟨rfl, t2.out⟩
              · cases bx
                · obtain rfl : res = false := by rw [hr2.out]; simp
                  clear hr2
                  go_wp2_with (first | (go_at_call 43; refine hG.out.mono ?_; rintro r w3 ⟨rfl, rfl⟩))
                  go_ret
                  exact ⟨rfl, t2.out⟩
                · cases b32
                  · obtain rfl : res = false := by rw [hr2.out]; simp
                    clear hr2
                    go_wp2_with (first | (go_at_call 43; refine hG.out.mono ?_; rintro r w3 ⟨rfl, rfl⟩))
                    go_ret
                    exact ⟨rfl, t2.out⟩
                  · cases bs0
                    · obtain rfl : res = false := by rw [hr2.out]; simp
                      clear hr2
                      go_wp2_with (first | (go_at_call 43; refine hG.out.mono ?_; rintro r w3 ⟨rfl, rfl⟩))
                      go_ret
                      exact ⟨rfl, t2.out⟩
                    · obtain rfl : res = false := by rw [hr2.out]; rfl
                      clear hr2
                      go_wp2_with (first | (go_at_call 43; refine hG.out.mono ?_; rintro r w3 ⟨rfl, rfl⟩))
                      go_ret
                      exact ⟨rfl, t2.out⟩
        · rw [if_neg y4] at hr2
          have z4 : (mk == 4) = false := by simp [y4]
          subst hr2
          go_wp2
          go_ret
          exact ⟨rfl, t2.out⟩

end Go.Proofs.Ytoegkcjclgmnbaa
