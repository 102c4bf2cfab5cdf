/-
  Layer 27: the document's Join, walked.
-/
import Derived.Test.YtkoplgpobagfoaaMp
import Derived.Test.YtkoplgpobagfoaaRi
namespace Go.Proofs.Ytkoplgpobagfoaa
open Go.RowKit
set_option linter.unusedVariables false
set_option linter.unusedSimpArgs false

theorem run_sl22 {a : Act} {w : World} {op : Oper} {x y : Operand} {g m c : Nat} {z : Int} (k : Nat) (ho : op.op = .slice 22 x (some y) none none) (hx : a.eval x = .slice (some ⟨g, 0, none⟩) m c) (hy : a.eval y = .int .i64 z) (hz : z = (k : Int)) (hk : k ≤ m) (hm : m ≤ c) (hc : k ≠ c) :
    (execOp a.eval op).run Try.prog w = .ok (.value (.slice (some ⟨g, k * 4, none⟩) (m - k) (c - k))) w := by
  subst hz
  have k0 : (0 : Int) ≤ (k : Int) := by omega
  have k1 : (k : Int) ≤ (m : Int) := by omega
  have k2 : (m : Int) ≤ (c : Int) := by omega
  have k4 : ¬ c = k := by omega
  unfold execOp
  simp only [ho, hx, hy, Option.map_some, Option.map_none, Option.mapM_some, Option.mapM_none]
  go_simp
theorem run_sl22e {a : Act} {w : World} {op : Oper} {x y : Operand} {g c : Nat} {z : Int} (ho : op.op = .slice 22 x (some y) none none) (hx : a.eval x = .slice (some ⟨g, 0, none⟩) c c) (hy : a.eval y = .int .i64 z) (hz : z = (c : Int)) :
    (execOp a.eval op).run Try.prog w = .ok (.value (.slice (some ⟨g, 0, none⟩) 0 0)) w := by
  subst hz
  have k0 : (0 : Int) ≤ (c : Int) := by omega
  unfold execOp
  simp only [ho, hx, hy, Option.map_some, Option.map_none, Option.mapM_some, Option.mapM_none]
  go_simp
theorem run_sl22n {a : Act} {w : World} {op : Oper} {x y : Operand} {z : Int} (ho : op.op = .slice 22 x (some y) none none) (hx : a.eval x = .slice none 0 0) (hy : a.eval y = .int .i64 z) (hz : z = ((0 : Nat) : Int)) :
    (execOp a.eval op).run Try.prog w = .ok (.value (.slice none 0 0)) w := by
  subst hz
  unfold execOp
  simp only [ho, hx, hy, Option.map_some, Option.map_none, Option.mapM_some, Option.mapM_none]
  go_simp

/-- out[k:] of a row, as a slice that reads. -/
theorem rest22 {w0 w : World} {v : Value} {A : List Fr} (k : Nat) (hA : RowA w0 w v A) (hk : k ≤ A.length) :
    ∃ v', FrA w v' (A.drop k) ∧ ∀ {a : Act} {op : Oper} {x y : Operand} {z : Int} (_ : op.op = .slice 22 x (some y) none none) (_ : a.eval x = v) (_ : a.eval y = .int .i64 z) (_ : z = (k : Int)), (execOp a.eval op).run Try.prog w = .ok (.value v') w := by
  rcases hA with ⟨rfl, rfl⟩ | ⟨g, c, rfl, hr, hc, _⟩
  · obtain rfl : k = 0 := by simpa using hk
    exact ⟨_, .inl ⟨rfl, rfl⟩, fun ho hx hy hz => run_sl22n ho hx hy hz⟩
  · by_cases hkc : k = c
    · obtain rfl : k = A.length := by omega
      obtain rfl : c = A.length := hkc.symm
      refine ⟨_, ?_, fun ho hx hy hz => run_sl22e ho hx hy hz⟩
      rw [List.drop_length]
      exact .inr ⟨_, 0, rfl, Nat.le_refl _, fun i hi => by simp at hi⟩
    · refine ⟨_, ?_, fun ho hx hy hz => run_sl22 k ho hx hy hz hk hc hkc⟩
      have hl : (A.drop k).length = A.length - k := by rw [List.length_drop]
      refine .inr ⟨⟨g, k * 4, none⟩, c - k, by rw [hl], by omega, fun i hi => ⟨g, k * 4, rfl, ?_⟩⟩
      have := hr.rng (k + i) (by omega)
      rw [show (k + i) * 4 = k * 4 + i * 4 by omega] at this
      rw [List.getElem_drop]
      exact this

theorem mrg_len (A B : List Fr) : (mrg A B).length ≤ A.length + B.length := by
  have : ∀ (n : Nat) (A B : List Fr), A.length + B.length ≤ n → (mrg A B).length = A.length + B.length := by
    intro n
    induction n with
    | zero =>
      intro A B h
      have e1 : A = [] := List.eq_nil_of_length_eq_zero (by omega)
      have e2 : B = [] := List.eq_nil_of_length_eq_zero (by omega)
      subst e1 e2
      rw [mrg_nil_left]
      rfl
    | succ n ih =>
      intro A B h
      cases B with
      | nil => rw [mrg_nil_right]; rfl
      | cons b B =>
        cases A with
        | nil => rw [mrg_nil_left]; simp
        | cons a A =>
          rw [mrg_cons]
          simp at h
          split
          · rw [List.length_cons, ih A (b :: B) (by simp; omega)]; simp; omega
          · rw [List.length_cons, ih (a :: A) B (by simp; omega)]; simp; omega
  rw [this _ A B (Nat.le_refl _)]
  exact Nat.le_refl _

set_option maxRecDepth 100000 in
set_option maxHeartbeats 6400000 in
theorem merged_any (w0 w : World) (va : Value) (q : Option Addr) (d : Nat) (A B : List Fr) (hA : RowA w0 w va A) (hB : FrSl w q d B) (hl : A.length + B.length ≤ 131072) :
    Calls Try.prog 48 #[va, .slice q B.length d] w fun r w' => ∃ v, r = .returned v ∧ OwnF w w' v (mrg A B) ∧ Touch Nothing w w' := by
  obtain ⟨pa, ca, hva, hsA⟩ := hA.sl
  obtain ⟨R, hR⟩ : ∃ R, R = mrg A B := ⟨_, rfl⟩
  have hRl := mrg_len A B
  rw [← hR] at hRl ⊢
  obtain ⟨la, hla⟩ : ∃ n, n = A.length := ⟨_, rfl⟩
  obtain ⟨lb, hlb⟩ : ∃ n, n = B.length := ⟨_, rfl⟩
  rw [← hla] at hva hRl hl
  rw [← hlb] at hRl hl ⊢
  subst hva
  replace hA := Lib.hid hA
  replace hB := Lib.hid hB
  replace hsA := Lib.hid hsA
  replace hR := Lib.hid hR
  replace hla := Lib.hid hla
  replace hlb := Lib.hid hlb
  go_enter Try.func48, Try.ntmps48
  go_wp2
  go_loopw [5, 6, 7] (fun ov iv kv wr => ∃ (v : Value) (out : List Fr) (i k : Nat), i ≤ la ∧ k ≤ lb ∧ ov = v ∧ iv = .int .i64 (i : Int) ∧ kv = .int .i64 (k : Int) ∧ Hid (OwnF w wr v out ∧ out ++ mrg (A.drop i) (B.drop k) = R) ∧ Touch Nothing w wr) (fun _ _ kv _ => lb - (intOf kv).toNat)
  case atStart => exact ⟨_, [], 0, 0, Nat.zero_le _, Nat.zero_le _, rfl, rfl, rfl, Lib.hid ⟨OwnF.nil _ _, by simpa using hR.out.symm⟩, Touch.refl _ _⟩
  case round =>
    obtain ⟨v, out, i, k, hi, hk, rfl, rfl, rfl, hI, ht⟩ := hrel
    by_cases hkb : k < lb
    · have hkB : k < B.length := by have := hlb.out; omega
      have k0 : (0 : Int) ≤ (k : Int) := by omega
      have k1 : (k : Int) < (lb : Int) := by omega
      have k2 : IntKind.i64.wrap ((k : Int) + 1) = (k : Int) + 1 := by rw [IntKind.wrap_i64]; omega
      go_wp2
      go_loopw [5, 6] (fun ov iv wr2 => ∃ (v : Value) (out : List Fr) (i : Nat), i ≤ la ∧ ov = v ∧ iv = .int .i64 (i : Int) ∧ Hid (OwnF w wr2 v out ∧ out ++ mrg (A.drop i) (B.drop k) = R) ∧ Touch Nothing w wr2) (fun _ iv _ => la - (intOf iv).toNat)
      case atStart => exact ⟨_, out, i, hi, rfl, rfl, hI, ht⟩
      case round =>
        obtain ⟨v2, out2, i2, hi2, rfl, rfl, hI2, ht2⟩ := hrel
        have i0 : (0 : Int) ≤ (i2 : Int) := by omega
        obtain ⟨g2, o2, e2, hy⟩ := (hB.out.keep ht2 (fun _ _ q => q)).2 k hkB
        subst e2
        obtain ⟨hO, hG⟩ := hI2.out
        rw [List.drop_eq_getElem_cons hkB] at hG
        obtain ⟨y, hye⟩ : ∃ y, y = B[k] := ⟨_, rfl⟩
        rw [← hye] at hG hy
        have hrl : out2.length ≤ la + lb := by
          have := congrArg List.length hG
          rw [List.length_append] at this
          omega
        have hroom := Lib.hid (show (out2.length + 1) * 32 ≤ 140737488355328 by omega)
        obtain ⟨bb, hbb⟩ : ∃ b, b = (match A[i2]? with | some x => decide (x.a ≤ y.a) | none => false) := ⟨_, rfl⟩
        have hyr := Lib.hid hy
        obtain ⟨ya, yf, yt, yl⟩ := y
        obtain ⟨d0, d1, d2, d3⟩ := fr_cells hy
        simp only [] at d0 d1 d2 d3 hbb
        replace hbb := Lib.hid hbb
        replace hO := Lib.hid hO
        replace hG := Lib.hid hG
        replace hye := Lib.hid hye
        clear hI2 hy hI hrl
        obtain ⟨W, eW⟩ : ∃ W, W = wr := ⟨_, rfl⟩
        rw [← eW] at ht2 d0 d1 d2 d3 hO hyr ⊢
        clear eW wr
        go_upto_region 6 with fail
        go_cut [30] (fun v wx => v = .bool bb ∧ Touch Nothing W wx)
        case first =>
          by_cases hil : i2 < la
          · have hiA : i2 < A.length := by have := hla.out; omega
            obtain ⟨g1, o1, e1, hx⟩ := (hsA.out.keep ht2 (fun _ _ q => q)).2 i2 hiA
            subst e1
            have hb2 := hbb.out
            rw [List.getElem?_eq_getElem hiA] at hb2
            obtain ⟨x, hxe⟩ : ∃ x, x = A[i2] := ⟨_, rfl⟩
            rw [← hxe] at hx hb2
            obtain ⟨xa, xf, xt, xl⟩ := x
            obtain ⟨c0, c1, c2, c3⟩ := fr_cells hx
            simp only [] at c0 c1 c2 c3 hb2
            have i1 : (i2 : Int) < (la : Int) := by omega
            have i3 : decide (i2 < la) = true := decide_eq_true hil
            have i4 : decide (xa ≤ ya) = bb := hb2.symm
            replace hxe := Lib.hid hxe
            clear hx hb2
            go_quiet (fail)
            go_wp2
            go_meet
            exact ⟨rfl, (Touch.refl _ _).drewN _⟩
          · have i1 : ¬ (i2 : Int) < (la : Int) := by omega
            have i3 : decide (i2 < la) = false := decide_eq_false hil
            obtain rfl : bb = false := by
              rw [hbb.out, List.getElem?_eq_none (by have := hla.out; omega)]
            go_quiet (fail)
            go_wp2
            go_meet
            exact ⟨rfl, (Touch.refl _ _).drewN _⟩
        case rest =>
        obtain ⟨rfl, tx⟩ := hcut
        obtain ⟨W2, eW2⟩ : ∃ W, W = wc := ⟨_, rfl⟩
        rw [← eW2] at tx ⊢
        clear eW2 wc
        have htW := ht2.trans' tx
        have hOW := hO.out.keep tx
        have hyW := hyr.out
        replace hyW := range_keep hyW tx (fun q => q)
        clear d0 d1 d2 d3 hO hyr ht2 tx
        cases bb
        · have hstep : mrg (A.drop i2) (⟨ya, yf, yt, yl⟩ :: B.drop (k + 1)) = ⟨ya, yf, yt, yl⟩ :: mrg (A.drop i2) (B.drop (k + 1)) := by
            by_cases hil : i2 < A.length
            · have hb2 := hbb.out
              rw [List.getElem?_eq_getElem hil] at hb2
              rw [List.drop_eq_getElem_cons hil, mrg_cons, if_neg (by simpa using hb2)]
            · rw [List.drop_of_length_le (by omega), mrg_nil_left, mrg_nil_left]
          have hG2 := hG.out
          rw [hstep] at hG2
          have hG3 : Hid ((out2 ++ [⟨ya, yf, yt, yl⟩]) ++ mrg (A.drop i2) (B.drop (k + 1)) = R) := Lib.hid (by rw [List.append_assoc]; exact hG2)
          obtain ⟨d0, d1, d2, d3⟩ := fr_cells hyW
          simp only [] at d0 d1 d2 d3
          have ta := (Touch.refl Nothing W2).alloc (.cells #[.int .i64 ya, .int .i64 yf, .int .i64 yt, .int .i64 yl] 50)
          have hg := Lib.hid (heap_new W2 (.cells (frCs ⟨ya, yf, yt, yl⟩).toArray 50))
          have hOA := Lib.hid (hOW.keep ta)
          have htA := Lib.hid (htW.alloc (.cells #[.int .i64 ya, .int .i64 yf, .int .i64 yt, .int .i64 yl] 50))
          clear hstep hG2 hG hbb ta hOW htW hyW
          go_wp2_with (first | (at_builtin; refine wpList_plain rfl fun K hK => wp_app1 (L := out2) (y := ⟨ya, yf, yt, yl⟩) (.tmp 40) (.tmp 45) rfl rfl hOA.out rfl hg.out htA.out hroom.out (fun v' w' hO' t' tg => hK _ _ ?_); clear hK K; replace hO' := Lib.hid hO'; clear tg))
          exact ⟨⟨_, _, i2, k + 1, hi2, by omega, rfl, rfl, by simp, Lib.hid ⟨hO'.out, hG3.out⟩, t'⟩, by simp [intOf]; omega⟩
        · have hil : i2 < A.length := by
            refine Decidable.byContradiction fun q => ?_
            have hb2 := hbb.out
            rw [List.getElem?_eq_none (by omega)] at hb2
            cases hb2
          have hb2 := hbb.out
          rw [List.getElem?_eq_getElem hil] at hb2
          obtain ⟨x, hxe⟩ : ∃ x, x = A[i2] := ⟨_, rfl⟩
          rw [← hxe] at hb2
          have hG2 := hG.out
          rw [List.drop_eq_getElem_cons hil, mrg_cons, ← hxe, if_pos (by simpa using hb2.symm), hye.out, ← List.drop_eq_getElem_cons hkB] at hG2
          obtain ⟨g1, o1, e1, hx⟩ := (hsA.out.keep htW (fun _ _ q => q)).2 i2 hil
          subst e1
          rw [← hxe] at hx
          obtain ⟨xa, xf, xt, xl⟩ := x
          obtain ⟨d0, d1, d2, d3⟩ := fr_cells hx
          simp only [] at d0 d1 d2 d3
          have hG3 : Hid ((out2 ++ [⟨xa, xf, xt, xl⟩]) ++ mrg (A.drop (i2 + 1)) (B.drop k) = R) := Lib.hid (by rw [List.append_assoc]; exact hG2)
          have i1 : (i2 : Int) < (la : Int) := by have := hla.out; omega
          have i3 : IntKind.i64.wrap ((i2 : Int) + 1) = (i2 : Int) + 1 := by rw [IntKind.wrap_i64]; omega
          have ta := (Touch.refl Nothing W2).alloc (.cells #[.int .i64 xa, .int .i64 xf, .int .i64 xt, .int .i64 xl] 50)
          have hg := Lib.hid (heap_new W2 (.cells (frCs ⟨xa, xf, xt, xl⟩).toArray 50))
          have hOA := Lib.hid (hOW.keep ta)
          have htA := Lib.hid (htW.alloc (.cells #[.int .i64 xa, .int .i64 xf, .int .i64 xt, .int .i64 xl] 50))
          have hi3 : i2 + 1 ≤ la := by have := hla.out; omega
          replace hxe := Lib.hid hxe
          replace hil := Lib.hid hil
          clear hG2 hG hbb ta hOW htW hyW hx hb2
          go_wp2_with (first | (at_builtin; refine wpList_plain rfl fun K hK => wp_app1 (L := out2) (y := ⟨xa, xf, xt, xl⟩) (.tmp 31) (.tmp 36) rfl rfl hOA.out rfl hg.out htA.out hroom.out (fun v' w' hO' t' tg => hK _ _ ?_); clear hK K; replace hO' := Lib.hid hO'; clear tg))
          exact ⟨⟨_, _, i2 + 1, hi3, rfl, by simp, Lib.hid ⟨hO'.out, hG3.out⟩, t'⟩, by simp [intOf]; omega⟩
    · have hkB : ¬ k < B.length := by have := hlb.out; omega
      obtain ⟨hO, hG⟩ := hI.out
      rw [List.drop_of_length_le (l := B) (by omega), mrg_nil_right] at hG
      have k1 : ¬ (k : Int) < (lb : Int) := by omega
      have hA2 := hA.out.keep ht (fun _ _ q => q)
      have hroom : (out.length + (A.drop i).length) * 32 ≤ 140737488355328 := by
        have := congrArg List.length hG
        rw [List.length_append] at this
        omega
      have hil : i ≤ A.length := by have := hla.out; omega
      replace hO := Lib.hid hO
      replace hG := Lib.hid hG
      replace hroom := Lib.hid hroom
      replace hA2 := Lib.hid hA2
      obtain ⟨W, eW⟩ : ∃ W, W = wr := ⟨_, rfl⟩
      rw [← eW] at hO ht hA2 ⊢
      clear eW hI
      go_upto_region 10 with fail
      refine wp_region_list ?_
      refine l_value rfl (run_move (v := u5) rfl rfl) ?_
      simp only [Act.put, List.setIfInBounds_toArray, List.set_cons_zero, List.set_cons_succ]
      refine l_value rfl (run_move (v := .slice pa la ca) rfl rfl) ?_
      simp only [Act.put, List.setIfInBounds_toArray, List.set_cons_zero, List.set_cons_succ]
      refine l_value rfl (run_move (v := .int .i64 (i : Int)) rfl rfl) ?_
      simp only [Act.put, List.setIfInBounds_toArray, List.set_cons_zero, List.set_cons_succ]
      obtain ⟨v9, hv9, hr9⟩ := rest22 i hA2.out hil
      refine l_value rfl (hr9 (z := (i : Int)) rfl rfl rfl rfl) ?_
      simp only [Act.put, List.setIfInBounds_toArray, List.set_cons_zero, List.set_cons_succ]
      refine wpList_plain rfl fun K hK => ?_
      have h1 := hO.out
      refine wp_appS (v := u5) (y := v9) (L := out) (M := A.drop i) (w0 := w) (.tmp 47) (.tmp 50) ?_ ?_ h1 ?_ hv9 ht hroom.out ?_
      · rfl
      · rfl
      · rfl
      intro v' w' hO' t' _
      refine hK _ _ ?_
      clear hK K h1
      simp only [Act.put, List.setIfInBounds_toArray, List.set_cons_zero, List.set_cons_succ]
      refine l_value rfl (run_asgn (v := v') rfl rfl) ?_
      simp only [Act.put, List.setIfInBounds_toArray, List.set_cons_zero, List.set_cons_succ]
      refine wpList_nil ?_
      rw [hG.out] at hO'
      have hh := Lib.hid (And.intro hO' t')
      clear hO' t' hO hv9 hr9
      go_wp2
      go_ret
      exact ⟨_, rfl, hh.out.1, hh.out.2⟩

theorem jerr_take (Ls : List (List Fr)) (h : jerr Ls = 0) : ∀ L ∈ Ls, (chkR L).2 = 0 := jerr_all Ls h

theorem mrg_lens : ∀ (Ls : List (List Fr)) (M : List Fr), (Ls.foldl mrg M).length ≤ M.length + lens Ls
  | [], M => by simp [lens]
  | L :: r, M => by
    have h1 := mrg_lens r (mrg M L)
    have h2 := mrg_len M L
    have h3 : lens (L :: r) = L.length + lens r := by simp [lens]
    rw [List.foldl_cons, h3]
    omega

set_option maxRecDepth 100000 in
set_option maxHeartbeats 6400000 in
theorem Join_ref (w : World) (p : Option Addr) (c : Nat) (ts : List (Value × List Fr)) (h : Vws w p c ts) (htl : ts.length ≤ 8796093022208) :
    Calls Try.prog 31 #[.slice p ts.length c] w (RowPost w (joinR (ts.map Prod.snd))) := by
  obtain ⟨n, hnl⟩ : ∃ n, n = ts.length := ⟨_, rfl⟩
  obtain ⟨Ls, hLs⟩ : ∃ Ls, Ls = ts.map Prod.snd := ⟨_, rfl⟩
  have hll : Ls.length = n := by rw [hLs, List.length_map, hnl]
  have hgi : ∀ i (h1 : i < ts.length) (h2 : i < Ls.length), ts[i].2 = Ls[i] := fun i h1 h2 => by subst hLs; simp
  obtain ⟨res, hres⟩ : ∃ r, r = joinR Ls := ⟨_, rfl⟩
  rw [← hnl] at htl ⊢
  rw [← hLs, ← hres]
  unfold joinR at hres
  replace h := Lib.hid h
  replace hnl := Lib.hid hnl
  replace hLs := Lib.hid hLs
  replace hll := Lib.hid hll
  replace hgi := Lib.hid hgi
  replace hres := Lib.hid hres
  go_enter Try.func31, Try.ntmps31
  go_wp2
  go_loopw [4, 5] (fun sv iv wr => ∃ i s : Nat, i ≤ n ∧ sv = .int .i64 (s : Int) ∧ iv = .int .i64 (i : Int) ∧ Hid (s = lens (Ls.take i) ∧ s ≤ 65536 * i ∧ jerr (Ls.drop i) = jerr Ls) ∧ Touch Nothing w wr) (fun _ iv _ => n - (intOf iv).toNat)
  case atStart => exact ⟨0, 0, Nat.zero_le _, rfl, rfl, Lib.hid ⟨by simp [lens], Nat.zero_le _, rfl⟩, Touch.refl _ _⟩
  case round =>
    obtain ⟨i, s, hi, rfl, rfl, hs, ht⟩ := hrel
    by_cases hlt : i < n
    · have hit : i < ts.length := by rw [← hnl.out]; exact hlt
      have hiL : i < Ls.length := by rw [hll.out]; exact hlt
      obtain ⟨⟨g, o, rfl, hc⟩, hA⟩ := (h.out.keep ht).2 i hit
      have e1 := lens_snoc Ls i hiL
      have e3 := hgi.out i hit hiL
      obtain ⟨e4, e5, e6⟩ := hs.out
      rw [jerr_drop Ls i hiL] at e6
      rw [e3] at hA
      obtain ⟨q, d, hv, hsl⟩ := hA.sl
      rw [hv] at hc
      have hC := Check_ref wr q d _ hsl
      have hlen : (chkR Ls[i]).2 = 0 → Ls[i].length ≤ 65536 := fun h => (chkR_ok h).1
      obtain ⟨m, hm⟩ : ∃ m, m = Ls[i].length := ⟨_, rfl⟩
      obtain ⟨⟨at_, e⟩, hq⟩ : ∃ y, y = chkR Ls[i] := ⟨_, rfl⟩
      rw [← hq] at hC e6 hlen
      rw [← hm] at hc e1 hC hlen
      simp only [] at hC e6 hlen
      have x5 : (0 : Int) ≤ (i : Int) := by omega
      have x6 : (i : Int) < (n : Int) := by omega
      have x7 : IntKind.i64.wrap ((i : Int) + 1) = (i : Int) + 1 := by rw [IntKind.wrap_i64]; omega
      replace hC := Lib.hid hC
      replace hm := Lib.hid hm
      replace hv := Lib.hid hv
      have hcc := Lib.hid hc
      clear e3 hA hsl hs hq
      by_cases he : e = 0
      · subst he
        rw [if_neg (by simp)] at e6
        replace hlen := hlen rfl
        obtain ⟨s2, hs2⟩ : ∃ s2, s2 = s + m := ⟨_, rfl⟩
        have x1 : (s : Int) + (m : Int) = (s2 : Int) := by omega
        have x2 : IntKind.i64.wrap (s2 : Int) = (s2 : Int) := wraps_i64 _ (by omega) (by omega)
        have x4 : Hid (s2 = lens (Ls.take (i + 1)) ∧ s2 ≤ 65536 * (i + 1) ∧ jerr (Ls.drop (i + 1)) = jerr Ls) := Lib.hid ⟨by omega, by omega, e6⟩
        clear e1 e4 e5 e6 hs2 hlen
        go_wp2_with (first | (go_at_call 22; refine hC.out.mono ?_; rintro r w2 ⟨rfl, t2⟩; have hc2 := t2.cell hcc.out (fun q => q); replace t2 := ht.trans' t2))
        exact ⟨⟨i + 1, s2, by omega, rfl, by simp, x4, t2⟩, by simp [intOf]; omega⟩
      · rw [if_pos (by simpa using he)] at e6
        have hr := hres.out
        rw [← e6, if_pos (by simpa using he)] at hr
        subst hr
        have y1 : (e == 0) = false := by simp [he]
        have y2 : (e != 0) = true := by simp [he]
        clear hres e1 e4 e5 e6 hlen
        go_wp2_with (first | (go_at_call 22; refine hC.out.mono ?_; rintro r w2 ⟨rfl, t2⟩; replace t2 := ht.trans' t2))
        go_ret2
        exact ⟨_, rfl, .inl ⟨rfl, rfl⟩, t2⟩
    · obtain ⟨e4, _, e6⟩ := hs.out
      rw [List.take_of_length_le (by rw [hll.out]; omega)] at e4
      rw [List.drop_of_length_le (by rw [hll.out]; omega)] at e6
      have hr := hres.out
      rw [← e6, if_neg (by simp [jerr]), ← e4] at hr
      have x1 : ¬ (i : Int) < (n : Int) := by omega
      clear hres hs
      by_cases hb : 65536 < s
      · rw [if_pos hb] at hr
        subst hr
        have x2 : (65536 : Int) < (s : Int) := by omega
        clear e4 hb e6
        go_wp2
        go_ret2
        exact ⟨_, rfl, .inl ⟨rfl, rfl⟩, ht⟩
      · rw [if_neg hb] at hr
        have hsr : ∀ L ∈ Ls, Srd cmpA L := fun L hL => chkR_srd (jerr_all Ls (by rw [← e6]; rfl) L hL)
        rw [← fold_ins Ls hsr] at hr
        subst hr
        have x2 : ¬ (65536 : Int) < (s : Int) := by omega
        have hsl : lens Ls ≤ 65536 := by omega
        replace hsl := Lib.hid hsl
        clear e4 hb e6 hsr hi hlt
        go_wp2
        clear x2 x1
        go_loopw [8, 9] (fun ov iv wr2 => ∃ (v : Value) (i : Nat), i ≤ n ∧ ov = v ∧ iv = .int .i64 (i : Int) ∧ Hid (OwnF w wr2 v ((Ls.take i).foldl mrg [])) ∧ Touch Nothing w wr2) (fun _ iv _ => n - (intOf iv).toNat)
        case atStart => exact ⟨_, 0, Nat.zero_le _, rfl, rfl, Lib.hid (OwnF.nil _ _), ht⟩
        case round =>
          clear ht
          obtain ⟨v, i2, hi2, rfl, rfl, hO, ht⟩ := hrel
          by_cases hlt2 : i2 < n
          · have hit : i2 < ts.length := by rw [← hnl.out]; exact hlt2
            have hiL : i2 < Ls.length := by rw [hll.out]; exact hlt2
            obtain ⟨⟨g, o, rfl, hc⟩, hA⟩ := (h.out.keep ht).2 i2 hit
            have e1 := lens_snoc Ls i2 hiL
            have e2 := lens_take Ls (i2 + 1)
            have e3 := hgi.out i2 hit hiL
            have e5 := hsl.out
            have e7 := mrg_lens (Ls.take i2) []
            have hfs : (Ls.take (i2 + 1)).foldl mrg [] = mrg ((Ls.take i2).foldl mrg []) Ls[i2] := by rw [List.take_succ_eq_append_getElem hiL, List.foldl_append]; rfl
            rw [e3] at hA
            obtain ⟨q, d, hv, hsl2⟩ := hA.sl
            rw [hv] at hc
            have hM := merged_any w wr _ q d ((Ls.take i2).foldl mrg []) Ls[i2] hO.out.row hsl2 (by simp at e7; omega)
            rw [← hfs] at hM
            obtain ⟨m, hm⟩ : ∃ m, m = Ls[i2].length := ⟨_, rfl⟩
            rw [← hm] at hc hM
            have x5 : (0 : Int) ≤ (i2 : Int) := by omega
            have x6 : (i2 : Int) < (n : Int) := by omega
            have x7 : IntKind.i64.wrap ((i2 : Int) + 1) = (i2 : Int) + 1 := by rw [IntKind.wrap_i64]; omega
            replace hM := Lib.hid hM
            replace hm := Lib.hid hm
            replace hv := Lib.hid hv
            clear e1 e2 e3 e5 e7 hfs hA hsl2
            go_wp2_with (first | (go_at_call 48; refine hM.out.mono ?_; rintro r w2 ⟨v2, rfl, hO2, t2⟩; replace hO2 := Lib.hid (show OwnF w w2 v2 _ from ⟨hO2.1, fun b hb => Nat.le_trans ht.size (hO2.2 b hb)⟩); replace t2 := ht.trans' t2))
            exact ⟨⟨_, i2 + 1, by omega, rfl, by simp, hO2, t2⟩, by simp [intOf]; omega⟩
          · have e1 := hO.out
            rw [List.take_of_length_le (by rw [hll.out]; omega)] at e1
            have hh := Lib.hid (And.intro e1 ht)
            have x1 : ¬ (i2 : Int) < (n : Int) := by omega
            clear e1 ht hO
            go_wp2
            go_ret2
            exact ⟨_, rfl, hh.out.1.row, hh.out.2⟩

end Go.Proofs.Ytkoplgpobagfoaa
