/-
  Layer 27: insertion sort, walked. Printed by mkvu.py.
-/
import Derived.Test.YtkoplgpobagfoaaVt
namespace Go.Proofs.Ytkoplgpobagfoaa
open Go.RowKit
set_option linter.unusedVariables false
set_option linter.unusedSimpArgs false

/-- Frame j and the one ahead of it change places. -/
def sw (L : List Fr) (j : Nat) : List Fr := match L[j]?, L[j - 1]? with
  | some x, some y => (L.set j y).set (j - 1) x
  | _, _ => L
theorem sw_len (L : List Fr) (j : Nat) : (sw L j).length = L.length := by
  unfold sw
  split <;> simp

def lessAt (cf : Fr → Fr → Int) (L : List Fr) (j : Nat) : Bool := match L[j]?, L[j - 1]? with
  | some x, some y => decide (cf x y < 0)
  | _, _ => false

/-- Frame j goes down to its place, not below a. -/
def sink (cf : Fr → Fr → Int) (a : Nat) : Nat → List Fr → List Fr
  | 0, L => L
  | j + 1, L => if a < j + 1 ∧ lessAt cf L (j + 1) = true then sink cf a j (sw L (j + 1)) else L
theorem sink_len (cf : Fr → Fr → Int) (a : Nat) : ∀ (j : Nat) (L : List Fr), (sink cf a j L).length = L.length
  | 0, _ => rfl
  | j + 1, L => by
    unfold sink
    split
    · rw [sink_len, sw_len]
    · rfl

def ins (cf : Fr → Fr → Int) (a : Nat) : Nat → Nat → List Fr → List Fr
  | 0, _, L => L
  | c + 1, i, L => ins cf a c (i + 1) (sink cf a i L)
theorem ins_len (cf : Fr → Fr → Int) (a : Nat) : ∀ (c i : Nat) (L : List Fr), (ins cf a c i L).length = L.length
  | 0, _, _ => rfl
  | c + 1, i, L => by unfold ins; rw [ins_len, sink_len]

/-- Insertion sort of the frames from a up to b. -/
def insS (cf : Fr → Fr → Int) (a b : Nat) (L : List Fr) : List Fr := ins cf a (b - (a + 1)) (a + 1) L

set_option maxRecDepth 100000 in
set_option maxHeartbeats 6400000 in
theorem ins_any (F : Nat) (cf : Fr → Fr → Int) (hF : ∀ (args : Array Value) (w : World), (callFunc F args).run Try.prog w = .ok (.enter F args) w)
    (hcf : ∀ (w : World) (x y : Fr), Calls Try.prog F #[frV x, frV y] w fun r w' => r = .returned (.int .i64 (cf x y)) ∧ Touch Nothing w w')
    (w : World) (g c a b : Nat) (M : List Fr) (hM : RowF w g M) (hb : b ≤ M.length) (hl : M.length ≤ 4611686018427387904) (hab : a ≤ b) :
    Calls Try.prog 54 #[.slice (some ⟨g, 0, none⟩) M.length c, .int .i64 (a : Int), .int .i64 (b : Int), .func (.func F) #[] #[]] w fun r w' => r = .returned (.tuple #[]) ∧ RowF w' g (insS cf a b M) ∧ Touch (fun k => k = g) w w' := by
  obtain ⟨res, hres⟩ : ∃ x, x = insS cf a b M := ⟨_, rfl⟩
  rw [← hres]
  unfold insS at hres
  obtain ⟨n, hn⟩ : ∃ n, n = M.length := ⟨_, rfl⟩
  rw [← hn] at hb hl ⊢
  have hgl : g < w.heap.size := by obtain ⟨ex, hg⟩ := hM; exact lt_of_heap hg
  replace hM := Lib.hid hM
  replace hres := Lib.hid hres
  replace hcf := Lib.hid hcf
  replace hF := Lib.hid hF
  go_enter Try.func54, Try.ntmps54
  go_wp2
  go_loopw [8] (fun iv wr => ∃ (i : Nat) (X : List Fr), a + 1 ≤ i ∧ i ≤ b + 1 ∧ iv = .int .i64 (i : Int) ∧ Hid (ins cf a (b - i) i X = res ∧ X.length = n ∧ RowF wr g X) ∧ Touch (fun k => k = g) w wr) (fun iv _ => b + 1 - (intOf iv).toNat)
  case atStart => exact ⟨a + 1, M, by omega, by omega, by simp, Lib.hid ⟨hres.out.symm, hn.symm, hM.out⟩, Touch.refl _ _⟩
  case round =>
    obtain ⟨i, X, hai, hib, rfl, hX, ht⟩ := hrel
    by_cases hlt : i < b
    · have hlti : (i : Int) < (b : Int) := by omega
      go_wp2
      go_loopw [9] (fun jv wr2 => ∃ (j : Nat) (Y : List Fr), a ≤ j ∧ j ≤ i ∧ jv = .int .i64 (j : Int) ∧ Hid (sink cf a j Y = sink cf a i X ∧ Y.length = n ∧ RowF wr2 g Y) ∧ Touch (fun k => k = g) w wr2) (fun jv _ => (intOf jv).toNat)
      case atStart => exact ⟨i, X, by omega, Nat.le_refl _, rfl, Lib.hid ⟨rfl, hX.out.2.1, hX.out.2.2⟩, ht⟩
      case round =>
        obtain ⟨j, Y, haj, hji, rfl, hY, ht2⟩ := hrel
        obtain ⟨hY1, hY2, hY3⟩ := hY.out
        by_cases hja : a < j
        · obtain ⟨q, rfl⟩ : ∃ q, j = q + 1 := ⟨j - 1, by omega⟩
          have hq1 : q + 1 < Y.length := by omega
          have hq0 : q < Y.length := by omega
          have r1 := fun (w' : World) (h : RowF w' g Y) => h.rng (q + 1) hq1
          have r0 := fun (w' : World) (h : RowF w' g Y) => h.rng q hq0
          have hlA : lessAt cf Y (q + 1) = decide (cf Y[q + 1] Y[q] < 0) := by
            unfold lessAt
            rw [List.getElem?_eq_getElem hq1, show q + 1 - 1 = q from rfl, List.getElem?_eq_getElem hq0]
          have hswA : sw Y (q + 1) = (Y.set (q + 1) Y[q]).set q Y[q + 1] := by
            unfold sw
            rw [List.getElem?_eq_getElem hq1, show q + 1 - 1 = q from rfl, List.getElem?_eq_getElem hq0]
          have hsk : sink cf a (q + 1) Y = if a < q + 1 ∧ lessAt cf Y (q + 1) = true then sink cf a q (sw Y (q + 1)) else Y := rfl
          obtain ⟨x, hx⟩ : ∃ x, x = Y[q + 1] := ⟨_, rfl⟩
          obtain ⟨y, hy⟩ : ∃ y, y = Y[q] := ⟨_, rfl⟩
          rw [← hx] at r1 hlA hswA
          rw [← hy] at r0 hlA hswA
          obtain ⟨bb, hbb⟩ : ∃ bb, bb = decide (cf x y < 0) := ⟨_, rfl⟩
          go_upto_region 4 with fail
          go_cut [34] (fun v wx => v = .bool bb ∧ RowF wx g Y ∧ Touch Nothing wr wx)
          case first =>
            refine wp_region_held_drew (S := fun w' => RowF w' g Y ∧ Touch Nothing wr w') (by kernel_rfl) ⟨hY3, (Touch.refl Nothing wr).drew⟩ (fun hS0 => ?_)
            refine d_value (i := 0) rfl (by kernel_rfl) (by kernel_rfl) (by kernel_rfl) rfl (fun _ _ _ h => h) (fun w9 hS => run_move rfl rfl) hS0 ?_
            simp only [Act.put, List.setIfInBounds_toArray, List.set_cons_zero, List.set_cons_succ]
            refine d_value (i := 1) rfl (by kernel_rfl) (by kernel_rfl) (by kernel_rfl) rfl (fun _ _ _ h => h) (fun w9 hS => run_move rfl rfl) hS0 ?_
            simp only [Act.put, List.setIfInBounds_toArray, List.set_cons_zero, List.set_cons_succ]
            refine d_value (i := 2) rfl (by kernel_rfl) (by kernel_rfl) (by kernel_rfl) rfl (fun _ _ _ h => h) (fun w9 hS => run_gtr true rfl rfl rfl (decide_eq_true (by omega))) hS0 ?_
            simp only [Act.put, List.setIfInBounds_toArray, List.set_cons_zero, List.set_cons_succ]
            refine d_value (i := 3) rfl (by kernel_rfl) (by kernel_rfl) (by kernel_rfl) rfl (fun _ _ _ h => h) (fun w9 hS => run_move rfl rfl) hS0 ?_
            simp only [Act.put, List.setIfInBounds_toArray, List.set_cons_zero, List.set_cons_succ]
            refine d_value (i := 4) rfl (by kernel_rfl) (by kernel_rfl) (by kernel_rfl) rfl (fun _ _ _ h => h) (fun w9 hS => run_move rfl rfl) hS0 ?_
            simp only [Act.put, List.setIfInBounds_toArray, List.set_cons_zero, List.set_cons_succ]
            refine d_value (i := 5) rfl (by kernel_rfl) (by kernel_rfl) (by kernel_rfl) rfl (fun _ _ _ h => h) (fun w9 hS => run_move rfl rfl) hS0 ?_
            simp only [Act.put, List.setIfInBounds_toArray, List.set_cons_zero, List.set_cons_succ]
            refine d_value (i := 6) rfl (by kernel_rfl) (by kernel_rfl) (by kernel_rfl) rfl (fun _ _ _ h => h) (fun w9 hS => run_move rfl rfl) hS0 ?_
            simp only [Act.put, List.setIfInBounds_toArray, List.set_cons_zero, List.set_cons_succ]
            refine d_value (i := 7) rfl (by kernel_rfl) (by kernel_rfl) (by kernel_rfl) rfl (fun _ _ _ h => h) (fun w9 hS => run_ia22 (q + 1) rfl rfl rfl rfl (by omega)) hS0 ?_
            simp only [Act.put, List.setIfInBounds_toArray, List.set_cons_zero, List.set_cons_succ]
            refine d_value (i := 8) rfl (by kernel_rfl) (by kernel_rfl) (by kernel_rfl) rfl (fun _ _ _ h => h) (fun w9 hS => run_ldF (f := x) rfl rfl (r1 _ hS.1)) hS0 ?_
            simp only [Act.put, List.setIfInBounds_toArray, List.set_cons_zero, List.set_cons_succ]
            refine d_value (i := 9) rfl (by kernel_rfl) (by kernel_rfl) (by kernel_rfl) rfl (fun _ _ _ h => h) (fun w9 hS => run_move rfl rfl) hS0 ?_
            simp only [Act.put, List.setIfInBounds_toArray, List.set_cons_zero, List.set_cons_succ]
            refine d_value (i := 10) rfl (by kernel_rfl) (by kernel_rfl) (by kernel_rfl) rfl (fun _ _ _ h => h) (fun w9 hS => run_move rfl rfl) hS0 ?_
            simp only [Act.put, List.setIfInBounds_toArray, List.set_cons_zero, List.set_cons_succ]
            refine d_value (i := 11) rfl (by kernel_rfl) (by kernel_rfl) (by kernel_rfl) rfl (fun _ _ _ h => h) (fun w9 hS => run_sub (q : Int) rfl rfl rfl (by omega) (by omega) (by omega)) hS0 ?_
            simp only [Act.put, List.setIfInBounds_toArray, List.set_cons_zero, List.set_cons_succ]
            refine d_value (i := 12) rfl (by kernel_rfl) (by kernel_rfl) (by kernel_rfl) rfl (fun _ _ _ h => h) (fun w9 hS => run_ia22 q rfl rfl rfl rfl (by omega)) hS0 ?_
            simp only [Act.put, List.setIfInBounds_toArray, List.set_cons_zero, List.set_cons_succ]
            refine d_value (i := 13) rfl (by kernel_rfl) (by kernel_rfl) (by kernel_rfl) rfl (fun _ _ _ h => h) (fun w9 hS => run_ldF (f := y) rfl rfl (r0 _ hS.1)) hS0 ?_
            simp only [Act.put, List.setIfInBounds_toArray, List.set_cons_zero, List.set_cons_succ]
            refine d_call (args := #[frV x, frV y]) (i := 14) (by kernel_rfl) rfl rfl hF.out rfl _ rfl #[] rfl rfl (hcf.out _ x y) (fun _ t => ⟨hS0.1.keep t (fun q => q), hS0.2.trans' t⟩) (fun wn tn => ?_)
            simp only [Act.put, List.setIfInBounds_toArray, List.set_cons_zero, List.set_cons_succ]
            replace hS0 : RowF wn g Y ∧ Touch Nothing wr wn := ⟨hS0.1.keep tn (fun q => q), hS0.2.trans' tn⟩
            refine d_value (i := 15) rfl (by kernel_rfl) (by kernel_rfl) (by kernel_rfl) rfl (fun _ _ _ h => h) (fun w9 hS => run_lss bb rfl rfl rfl hbb.symm) hS0 ?_
            simp only [Act.put, List.setIfInBounds_toArray, List.set_cons_zero, List.set_cons_succ]
            refine d_value (i := 16) rfl (by kernel_rfl) (by kernel_rfl) (by kernel_rfl) rfl (fun _ _ _ h => h) (fun w9 hS => run_pick rfl rfl rfl) hS0 ?_
            simp only [Act.put, List.setIfInBounds_toArray, List.set_cons_zero, List.set_cons_succ]
            refine wpAnyH_done (by kernel_rfl) ?_ _
            have hh := Lib.hid hS0
            clear hS0 tn hY3 ht2 r1 r0 ht hX hY
            go_wp2_with fail
            go_meet
            exact ⟨rfl, hh.out.1, hh.out.2⟩
          case rest =>
          obtain ⟨rfl, hY4, t4⟩ := hcut
          obtain ⟨w4, ew4⟩ : ∃ v : World, v = wc := ⟨_, rfl⟩
          rw [← ew4] at hY4 t4 ⊢
          clear ew4 wc
          have ht5 : Touch (fun k => k = g) w w4 := ht2.trans' (t4.mono fun _ _ q => q.elim)
          replace r1 := r1 w4 hY4
          replace r0 := r0 w4 hY4
          cases bb
          · have hfin : Y = sink cf a i X := by rw [← hY1, hsk, if_neg (by rw [hlA, ← hbb]; simp)]
            have hX2 : ins cf a (b - (i + 1)) (i + 1) Y = res := by
              rw [hfin, ← hX.out.1, show b - i = (b - (i + 1)) + 1 by omega]
              rfl
            replace hX2 := Lib.hid (And.intro hX2 (And.intro hY2 hY4))
            clear hY hY1 hY3 hY4 hfin hsk hlA hswA hbb r1 r0 hx hy t4 ht2 hX ht
            replace ht5 := Lib.hid ht5
            go_wp2
            exact ⟨⟨i + 1, Y, by omega, by omega, by simp, hX2, ht5.out⟩, by simp [intOf]; omega⟩
          · have hnx : sink cf a q (sw Y (q + 1)) = sink cf a i X := by rw [← hY1, hsk, if_pos ⟨by omega, by rw [hlA, ← hbb]⟩]
            go_upto_region 6 with fail
            refine wp_region_stage (S := fun w' => RowF w' g Y) (by kernel_rfl) ?_
            have hS0 : RowF w4.drew g Y := hY4
            refine g_pure (i := 0) rfl (by kernel_rfl) (by kernel_rfl) (by kernel_rfl) (by kernel_rfl) rfl (fun _ _ _ h => h) (fun w9 => run_move rfl rfl) (fun _ => hS0) ?_
            simp only [Act.put, List.setIfInBounds_toArray, List.set_cons_zero, List.set_cons_succ]
            refine g_pure (i := 1) rfl (by kernel_rfl) (by kernel_rfl) (by kernel_rfl) (by kernel_rfl) rfl (fun _ _ _ h => h) (fun w9 => run_move rfl rfl) (fun _ => hS0) ?_
            simp only [Act.put, List.setIfInBounds_toArray, List.set_cons_zero, List.set_cons_succ]
            refine g_pure (i := 2) rfl (by kernel_rfl) (by kernel_rfl) (by kernel_rfl) (by kernel_rfl) rfl (fun _ _ _ h => h) (fun w9 => run_move rfl rfl) (fun _ => hS0) ?_
            simp only [Act.put, List.setIfInBounds_toArray, List.set_cons_zero, List.set_cons_succ]
            refine g_pure (i := 3) rfl (by kernel_rfl) (by kernel_rfl) (by kernel_rfl) (by kernel_rfl) rfl (fun _ _ _ h => h) (fun w9 => run_move rfl rfl) (fun _ => hS0) ?_
            simp only [Act.put, List.setIfInBounds_toArray, List.set_cons_zero, List.set_cons_succ]
            refine g_pure (i := 4) rfl (by kernel_rfl) (by kernel_rfl) (by kernel_rfl) (by kernel_rfl) rfl (fun _ _ _ h => h) (fun w9 => run_sub (q : Int) rfl rfl rfl (by omega) (by omega) (by omega)) (fun _ => hS0) ?_
            simp only [Act.put, List.setIfInBounds_toArray, List.set_cons_zero, List.set_cons_succ]
            refine g_pure (i := 5) rfl (by kernel_rfl) (by kernel_rfl) (by kernel_rfl) (by kernel_rfl) rfl (fun _ _ _ h => h) (fun w9 => run_move rfl rfl) (fun _ => hS0) ?_
            simp only [Act.put, List.setIfInBounds_toArray, List.set_cons_zero, List.set_cons_succ]
            refine g_pure (i := 6) rfl (by kernel_rfl) (by kernel_rfl) (by kernel_rfl) (by kernel_rfl) rfl (fun _ _ _ h => h) (fun w9 => run_move rfl rfl) (fun _ => hS0) ?_
            simp only [Act.put, List.setIfInBounds_toArray, List.set_cons_zero, List.set_cons_succ]
            refine g_pure (i := 7) rfl (by kernel_rfl) (by kernel_rfl) (by kernel_rfl) (by kernel_rfl) rfl (fun _ _ _ h => h) (fun w9 => run_sub (q : Int) rfl rfl rfl (by omega) (by omega) (by omega)) (fun _ => hS0) ?_
            simp only [Act.put, List.setIfInBounds_toArray, List.set_cons_zero, List.set_cons_succ]
            refine g_pure (i := 8) rfl (by kernel_rfl) (by kernel_rfl) (by kernel_rfl) (by kernel_rfl) rfl (fun _ _ _ h => h) (fun w9 => run_ia22 q rfl rfl rfl rfl (by omega)) (fun _ => hS0) ?_
            simp only [Act.put, List.setIfInBounds_toArray, List.set_cons_zero, List.set_cons_succ]
            refine g_read (i := 9) rfl (by kernel_rfl) (by kernel_rfl) (by kernel_rfl) (by kernel_rfl) (by kernel_rfl) rfl (fun _ _ _ h => h) (fun w9 hS => run_ldF (f := y) rfl rfl (hy ▸ hS.rng q hq0)) hS0 ?_
            simp only [Act.put, List.setIfInBounds_toArray, List.set_cons_zero, List.set_cons_succ]
            refine g_pure (i := 10) rfl (by kernel_rfl) (by kernel_rfl) (by kernel_rfl) (by kernel_rfl) rfl (fun _ _ _ h => h) (fun w9 => run_move rfl rfl) (fun _ => hS0) ?_
            simp only [Act.put, List.setIfInBounds_toArray, List.set_cons_zero, List.set_cons_succ]
            refine g_pure (i := 11) rfl (by kernel_rfl) (by kernel_rfl) (by kernel_rfl) (by kernel_rfl) rfl (fun _ _ _ h => h) (fun w9 => run_move rfl rfl) (fun _ => hS0) ?_
            simp only [Act.put, List.setIfInBounds_toArray, List.set_cons_zero, List.set_cons_succ]
            refine g_pure (i := 12) rfl (by kernel_rfl) (by kernel_rfl) (by kernel_rfl) (by kernel_rfl) rfl (fun _ _ _ h => h) (fun w9 => run_ia22 (q + 1) rfl rfl rfl rfl (by omega)) (fun _ => hS0) ?_
            simp only [Act.put, List.setIfInBounds_toArray, List.set_cons_zero, List.set_cons_succ]
            refine g_read (i := 13) rfl (by kernel_rfl) (by kernel_rfl) (by kernel_rfl) (by kernel_rfl) (by kernel_rfl) rfl (fun _ _ _ h => h) (fun w9 hS => run_ldF (f := x) rfl rfl (hx ▸ hS.rng (q + 1) hq1)) hS0 ?_
            simp only [Act.put, List.setIfInBounds_toArray, List.set_cons_zero, List.set_cons_succ]
            refine g_pure (i := 14) rfl (by kernel_rfl) (by kernel_rfl) (by kernel_rfl) (by kernel_rfl) rfl (fun _ _ _ h => h) (fun w9 => run_ia22 (q + 1) rfl rfl rfl rfl (by omega)) (fun _ => hS0) ?_
            simp only [Act.put, List.setIfInBounds_toArray, List.set_cons_zero, List.set_cons_succ]
            refine g_store (i := 15) (by kernel_rfl) (by kernel_rfl) rfl rfl (fun K hK => wp_stF (f := y) (L := Y) (i := q + 1) rfl rfl rfl hS0 hq1 (fun wa ha ta => hK _ _ ?_))
            clear hK K
            simp only [Act.put, List.setIfInBounds_toArray, List.set_cons_zero, List.set_cons_succ]
            refine g_late (i := 16) rfl (by kernel_rfl) (by kernel_rfl) (by kernel_rfl) (by kernel_rfl) rfl (fun _ _ _ h => h) (fun w9 => run_ia22 q rfl rfl rfl rfl (by omega)) (by kernel_rfl) ?_
            simp only [Act.put, List.setIfInBounds_toArray, List.set_cons_zero, List.set_cons_succ]
            refine g_store (i := 17) (by kernel_rfl) (by kernel_rfl) rfl rfl (fun K hK => wp_stF (f := x) (L := Y.set (q + 1) y) (i := q) rfl rfl rfl ha (by rw [List.length_set]; omega) (fun wb hb2 tb => hK _ _ ?_))
            clear hK K
            simp only [Act.put, List.setIfInBounds_toArray, List.set_cons_zero, List.set_cons_succ]
            refine AnyG.done (by kernel_rfl) ?_ _
            rw [← hswA] at hb2
            have hfin := Lib.hid (And.intro hnx (And.intro ((sw_len Y (q + 1)).trans hY2) hb2))
            have ht6 := Lib.hid ((ht5.drew.trans' ta).trans' tb)
            clear hY hY1 hY3 hY4 hnx hsk hlA hswA hbb r1 r0 hx hy t4 ht2 hS0 ha ta hb2 tb ht5
            go_wp2
            exact ⟨⟨q, _, by omega, by omega, by simp, hfin, ht6.out⟩, by simp [intOf]⟩
        · obtain rfl : j = a := by omega
          have hfin : Y = sink cf j i X := by
            rw [← hY1]
            cases j with
            | zero => rfl
            | succ k => unfold sink; rw [if_neg (by omega)]
          have hX2 : ins cf j (b - (i + 1)) (i + 1) Y = res := by
            rw [hfin, ← hX.out.1, show b - i = (b - (i + 1)) + 1 by omega]
            rfl
          go_upto_region 4 with fail
          refine wp_region_held_drew (S := fun _ => True) (by kernel_rfl) trivial (fun hS0 => ?_)
          refine d_value (i := 0) rfl (by kernel_rfl) (by kernel_rfl) (by kernel_rfl) rfl (fun _ _ _ h => h) (fun w9 hS => run_move rfl rfl) trivial ?_
          simp only [Act.put, List.setIfInBounds_toArray, List.set_cons_zero, List.set_cons_succ]
          refine d_value (i := 1) rfl (by kernel_rfl) (by kernel_rfl) (by kernel_rfl) rfl (fun _ _ _ h => h) (fun w9 hS => run_move rfl rfl) trivial ?_
          simp only [Act.put, List.setIfInBounds_toArray, List.set_cons_zero, List.set_cons_succ]
          refine d_value (i := 2) rfl (by kernel_rfl) (by kernel_rfl) (by kernel_rfl) rfl (fun _ _ _ h => h) (fun w9 hS => run_gtr false rfl rfl rfl (decide_eq_false (by omega))) trivial ?_
          simp only [Act.put, List.setIfInBounds_toArray, List.set_cons_zero, List.set_cons_succ]
          refine d_value (i := 3) rfl (by kernel_rfl) (by kernel_rfl) (by kernel_rfl) rfl (fun _ _ _ h => h) (fun w9 hS => run_move rfl rfl) trivial ?_
          simp only [Act.put, List.setIfInBounds_toArray, List.set_cons_zero, List.set_cons_succ]
          refine d_out (i := 4) rfl (by kernel_rfl) (by kernel_rfl) (by kernel_rfl) rfl (fun _ _ _ h => h) trivial ?_
          simp only [Act.put, List.setIfInBounds_toArray, List.set_cons_zero, List.set_cons_succ]
          refine d_out (i := 5) rfl (by kernel_rfl) (by kernel_rfl) (by kernel_rfl) rfl (fun _ _ _ h => h) trivial ?_
          simp only [Act.put, List.setIfInBounds_toArray, List.set_cons_zero, List.set_cons_succ]
          refine d_out (i := 6) rfl (by kernel_rfl) (by kernel_rfl) (by kernel_rfl) rfl (fun _ _ _ h => h) trivial ?_
          simp only [Act.put, List.setIfInBounds_toArray, List.set_cons_zero, List.set_cons_succ]
          refine d_out (i := 7) rfl (by kernel_rfl) (by kernel_rfl) (by kernel_rfl) rfl (fun _ _ _ h => h) trivial ?_
          simp only [Act.put, List.setIfInBounds_toArray, List.set_cons_zero, List.set_cons_succ]
          refine d_out (i := 8) rfl (by kernel_rfl) (by kernel_rfl) (by kernel_rfl) rfl (fun _ _ _ h => h) trivial ?_
          simp only [Act.put, List.setIfInBounds_toArray, List.set_cons_zero, List.set_cons_succ]
          refine d_out (i := 9) rfl (by kernel_rfl) (by kernel_rfl) (by kernel_rfl) rfl (fun _ _ _ h => h) trivial ?_
          simp only [Act.put, List.setIfInBounds_toArray, List.set_cons_zero, List.set_cons_succ]
          refine d_out (i := 10) rfl (by kernel_rfl) (by kernel_rfl) (by kernel_rfl) rfl (fun _ _ _ h => h) trivial ?_
          simp only [Act.put, List.setIfInBounds_toArray, List.set_cons_zero, List.set_cons_succ]
          refine d_out (i := 11) rfl (by kernel_rfl) (by kernel_rfl) (by kernel_rfl) rfl (fun _ _ _ h => h) trivial ?_
          simp only [Act.put, List.setIfInBounds_toArray, List.set_cons_zero, List.set_cons_succ]
          refine d_out (i := 12) rfl (by kernel_rfl) (by kernel_rfl) (by kernel_rfl) rfl (fun _ _ _ h => h) trivial ?_
          simp only [Act.put, List.setIfInBounds_toArray, List.set_cons_zero, List.set_cons_succ]
          refine d_out (i := 13) rfl (by kernel_rfl) (by kernel_rfl) (by kernel_rfl) rfl (fun _ _ _ h => h) trivial ?_
          simp only [Act.put, List.setIfInBounds_toArray, List.set_cons_zero, List.set_cons_succ]
          refine d_out (i := 14) rfl (by kernel_rfl) (by kernel_rfl) (by kernel_rfl) rfl (fun _ _ _ h => h) trivial ?_
          simp only [Act.put, List.setIfInBounds_toArray, List.set_cons_zero, List.set_cons_succ]
          refine d_out (i := 15) rfl (by kernel_rfl) (by kernel_rfl) (by kernel_rfl) rfl (fun _ _ _ h => h) trivial ?_
          simp only [Act.put, List.setIfInBounds_toArray, List.set_cons_zero, List.set_cons_succ]
          refine d_value (i := 16) rfl (by kernel_rfl) (by kernel_rfl) (by kernel_rfl) rfl (fun _ _ _ h => h) (fun w9 hS => run_pick rfl rfl rfl) trivial ?_
          simp only [Act.put, List.setIfInBounds_toArray, List.set_cons_zero, List.set_cons_succ]
          refine wpAnyH_done (by kernel_rfl) ?_ _
          replace hX2 := Lib.hid (And.intro hX2 (And.intro hY2 hY3))
          have ht5 := Lib.hid ht2.drew
          clear hY hY1 hY3 hfin ht2 hX ht
          go_wp2
          exact ⟨⟨i + 1, Y, by omega, by omega, by simp, hX2, ht5.out⟩, by simp [intOf]; omega⟩
    · have hlti : ¬ (i : Int) < (b : Int) := by omega
      have hfin : X = res := by
        rw [← hX.out.1, show b - i = 0 by omega]
        rfl
      have hrow := hX.out.2.2
      rw [hfin] at hrow
      replace hrow := Lib.hid hrow
      clear hX hfin
      replace ht := Lib.hid ht
      go_wp2
      go_end0
      exact ⟨rfl, hrow.out, ht.out⟩

end Go.Proofs.Ytkoplgpobagfoaa
