/-
  Layer 27: what is between two ticks: the closure, IndexFunc, DeleteFunc, Between of the program, walked.
-/
import Derived.Test.YtkoplgpobagfoaaLd
import Derived.Deep.DeepCutAuto
namespace Go.Proofs.Ytkoplgpobagfoaa
open Go.RowKit
set_option linter.unusedVariables false
set_option linter.unusedSimpArgs false

/-! ### Plain -/

def outB (f t : Int) (x : Fr) : Bool := decide (x.a < f) || decide (t < x.a)
def inB (f t : Int) (x : Fr) : Bool := !outB f t x

/-- What is between two ticks, and what is said. -/
def betR (M : List Fr) (f t : Int) : List Fr × Int :=
  if (chkR M).2 ≠ 0 then ([], (chkR M).2) else if t < f then ([], 1) else (M.filter (inB f t), 0)

theorem keep_no {α : Type} {l r : List α} {p : α → Bool} {i j : Nat} (hij : i < j) (hj : j < l.length) (h : r.length = l.length ∧ r.take i = (l.take j).filter p ∧ r.drop j = l.drop j) (hp : p l[j] = false) :
    r.length = l.length ∧ r.take i = (l.take (j + 1)).filter p ∧ r.drop (j + 1) = l.drop (j + 1) := by
  obtain ⟨h1, h2, h3⟩ := h
  refine ⟨h1, ?_, ?_⟩
  · rw [List.take_add_one, List.getElem?_eq_getElem hj, List.filter_append, ← h2]; simp [hp]
  · rw [← List.drop_drop, ← List.drop_drop, h3]

theorem keep_yes {α : Type} {l r : List α} {p : α → Bool} {i j : Nat} (hij : i < j) (hj : j < l.length) (h : r.length = l.length ∧ r.take i = (l.take j).filter p ∧ r.drop j = l.drop j) (hp : p l[j] = true) :
    (r.set i l[j]).length = l.length ∧ (r.set i l[j]).take (i + 1) = (l.take (j + 1)).filter p ∧ (r.set i l[j]).drop (j + 1) = l.drop (j + 1) := by
  obtain ⟨h1, h2, h3⟩ := h
  refine ⟨by simpa using h1, ?_, ?_⟩
  · rw [List.take_add_one, List.take_add_one, List.getElem?_eq_getElem hj, List.filter_append, ← h2, List.take_set_of_le (Nat.le_refl _)]
    rw [List.getElem?_set_self (by omega)]
    simp [hp]
  · rw [List.drop_set_of_lt (by omega), ← List.drop_drop, ← List.drop_drop, h3]

/-! ### The closure -/

set_option maxRecDepth 100000 in
theorem out_any (w : World) (gf gt : Nat) (f t : Int) (x : Fr) (hf : w.cell? ⟨gf, 0, none⟩ = some (.int .i64 f)) (ht : w.cell? ⟨gt, 0, none⟩ = some (.int .i64 t)) :
    Calls Try.prog 45 #[frV x, .pointer (some ⟨gf, 0, none⟩), .pointer (some ⟨gt, 0, none⟩)] w fun r w' => r = .returned (.bool (outB f t x)) ∧ Touch Nothing w w' := by
  obtain ⟨xa, xf, xt, xl⟩ := x
  unfold outB frV
  simp only []
  have tA := (Touch.refl Nothing w).alloc (.cells #[.int .i64 xa, .int .i64 xf, .int .i64 xt, .int .i64 xl] 50)
  replace hf := tA.cell hf (fun q => q)
  replace ht := tA.cell ht (fun q => q)
  replace tA := Lib.hid tA
  by_cases h1 : xa < f
  · rw [decide_eq_true h1, Bool.true_or]
    go_enter Try.func45, Try.ntmps45
    go_wp2
    go_ret
    exact ⟨rfl, tA.out⟩
  · rw [decide_eq_false h1, Bool.false_or]
    by_cases h2 : t < xa
    · rw [decide_eq_true h2]
      go_enter Try.func45, Try.ntmps45
      go_wp2
      go_ret
      exact ⟨rfl, tA.out⟩
    · rw [decide_eq_false h2]
      go_enter Try.func45, Try.ntmps45
      go_wp2
      go_ret
      exact ⟨rfl, tA.out⟩

/-! ### IndexFunc -/

def OutC (w : World) (gf gt : Nat) (f t : Int) : Prop := w.cell? ⟨gf, 0, none⟩ = some (.int .i64 f) ∧ w.cell? ⟨gt, 0, none⟩ = some (.int .i64 t)
theorem OutC.keep {F : Nat → Prop} {w w' : World} {gf gt : Nat} {f t : Int} (h : OutC w gf gt f t) (ht : Touch F w w') (h1 : ¬ F gf) (h2 : ¬ F gt) : OutC w' gf gt f t := ⟨ht.cell h.1 h1, ht.cell h.2 h2⟩

def outV (gf gt : Nat) : Value := .func (.func 45) #[] #[.pointer (some ⟨gf, 0, none⟩), .pointer (some ⟨gt, 0, none⟩)]

set_option maxRecDepth 100000 in
set_option maxHeartbeats 1600000 in
theorem index_any (w : World) (p : Option Addr) (c : Nat) (L : List Fr) (h : FrSl w p c L) (gf gt : Nat) (f t : Int) (hc : OutC w gf gt f t) (hl : L.length ≤ 65536) :
    Calls Try.prog 52 #[.slice p L.length c, outV gf gt] w fun e w' => Touch Nothing w w' ∧
      ((e = .returned (.int .i64 (-1)) ∧ ∀ x ∈ L, outB f t x = false) ∨
       ∃ i, ∃ hi : i < L.length, e = .returned (.int .i64 (i : Int)) ∧ outB f t L[i] = true ∧ ∀ j (hj : j < i), outB f t L[j] = false) := by
  unfold outV
  replace hc := Lib.hid hc
  replace h := Lib.hid h
  go_enter Try.func52, Try.ntmps52
  go_wp2
  go_loopw [8] (fun iv wr => ∃ i : Nat, i ≤ L.length ∧ iv = .int .i64 (i : Int) ∧ Touch Nothing w wr ∧ Hid (∀ j (hj : j < L.length), j < i → outB f t L[j] = false)) (fun iv _ => L.length - (intOf iv).toNat)
  case atStart => exact ⟨0, Nat.zero_le _, rfl, Touch.refl _ _, Lib.hid fun j _ hj => by omega⟩
  case round =>
    obtain ⟨i, hi, rfl, ht, hold⟩ := hrel
    by_cases hil : i < L.length
    · obtain ⟨g, o, rfl, hr⟩ := (h.out.keep ht (fun _ _ q => q)).2 i hil
      obtain ⟨x, hx⟩ : ∃ x, x = L[i] := ⟨_, rfl⟩
      rw [← hx] at hr
      have hO := fun w' (ht' : Touch Nothing w w') => out_any w' gf gt f t x (hc.out.keep ht' (fun q => q) (fun q => q)).1 (hc.out.keep ht' (fun q => q) (fun q => q)).2
      obtain ⟨b, hbv⟩ : ∃ b, b = outB f t x := ⟨_, rfl⟩
      rw [← hbv] at hO
      rw [hx] at hbv
      obtain ⟨xa, xf, xt, xl⟩ := x
      obtain ⟨c0, c1, c2, c3⟩ := fr_cells hr
      simp only [] at c0 c1 c2 c3
      have hi0 : (0 : Int) ≤ (i : Int) := by omega
      have hi1 : (i : Int) < (L.length : Int) := by omega
      have e3 : IntKind.i64.wrap ((i : Int) + 1) = (i : Int) + 1 := by rw [IntKind.wrap_i64]; omega
      unfold frV at hO
      simp only [] at hO
      replace hO := Lib.hid hO
      replace hbv := Lib.hid hbv
      replace hx := Lib.hid hx
      clear hr
      cases b
      · go_wp2_with (go_at_call 45; refine (hO.out _ ht).mono ?_; rintro e w2 ⟨rfl, ht2⟩)
        refine ⟨⟨i + 1, by omega, by simp, ht.none ht2, Lib.hid fun j hj hji => ?_⟩, by simp [intOf]; omega⟩
        rcases Nat.lt_or_ge j i with q | q
        · exact hold.out j hj q
        · obtain rfl : j = i := by omega
          exact hbv.out.symm
      · go_wp2_with (go_at_call 45; refine (hO.out _ ht).mono ?_; rintro e w2 ⟨rfl, ht2⟩)
        go_ret
        exact ⟨ht.none ht2, .inr ⟨i, hil, rfl, hbv.out.symm, fun j hj => hold.out j (by omega) hj⟩⟩
    · go_wp2
      go_ret
      refine ⟨ht, .inl ⟨rfl, fun x hx => ?_⟩⟩
      obtain ⟨j, hj, rfl⟩ := List.mem_iff_getElem.1 hx
      exact hold.out j hj (by omega)

/-! ### DeleteFunc -/

theorem RowF.behind {w : World} {g o : Nat} {L : List Fr} (h : RowF w g L) (ho : L.length * 4 ≤ o) (v : Value) : RowF (w.setCell ⟨g, o, none⟩ v) g L := by
  obtain ⟨ex, hg⟩ := h
  refine ⟨ex.set (o - (flat L).length) v, ?_⟩
  rw [heap_setCell_same hg o v]
  congr 2
  apply Array.toList_inj.1
  rw [Array.toList_setIfInBounds]
  simp only []
  rw [List.set_append_right _ _ (by rw [flat_len]; exact ho)]

theorem blk_rng {w : World} {g : Nat} {f : Fr} (h : w.heap[g]? = some (.cells (frCs f).toArray 50 (0, 0))) : w.rangeAt g 0 (frCs f) := fun j v hv => by
  rw [Nat.zero_add, cell_blk h j]
  simpa using hv

theorem RowF.behinds {g : Nat} {L : List Fr} : ∀ (vs : List Value) (o : Nat) (w : World), RowF w g L → L.length * 4 ≤ o → RowF (w.setCells g o vs) g L
  | [], _, _, h, _ => h
  | v :: r, o, w, h, ho => RowF.behinds r (o + 1) _ (h.behind ho v) (by omega)

theorem zero50 (w : World) : (zeroValue 50).run Try.prog w = .ok (.agg #[.int .i64 0, .int .i64 0, .int .i64 0, .int .i64 0]) w := Try.zeroValue50 w

theorem run_clear22 {w : World} {g : Nat} {M : List Fr} (h : RowF w g M) {i : Nat} (hi : i < M.length) (ty : TypeId) (c' m : Nat) (hm : m = M.length - i) :
    (Builtin.clear_ #[22] ty #[.slice (some ⟨g, i * 4, none⟩) m c']).run Try.prog w = .ok (.tuple #[]) (w.setCells g (i * 4) (Builtin.zeroCells (Value.agg #[.int .i64 0, .int .i64 0, .int .i64 0, .int .i64 0]).cells m).toList) := by
  have hz : ((Builtin.zeroCells (Value.agg #[.int .i64 0, .int .i64 0, .int .i64 0, .int .i64 0]).cells m)).toList.length = m * 4 := by
    rw [Array.length_toList]
    simp [Builtin.zeroCells, Value.cells]
  have h1 : ∀ v ∈ (Builtin.zeroCells (Value.agg #[.int .i64 0, .int .i64 0, .int .i64 0, .int .i64 0]).cells m).toList, v.oneCell' = true := by
    intro v hv
    simp [Builtin.zeroCells, Value.cells] at hv
    obtain ⟨k, hk, rfl⟩ := hv
    have : k % 4 < 4 := Nat.mod_lt _ (by omega)
    generalize k % 4 = q at this
    match q, this with
    | 0, _ => rfl
    | 1, _ => rfl
    | 2, _ => rfl
    | 3, _ => rfl
  generalize hzs : (Builtin.zeroCells (Value.agg #[.int .i64 0, .int .i64 0, .int .i64 0, .int .i64 0]).cells m).toList = zs at hz h1
  obtain ⟨ex, hg⟩ := h
  have hl := flat_len M
  have hst := run_storeCells_cells (P := Try.prog) g (i * 4) zs 0 w (fun j hj => ?_) (fun j hj => ?_) h1
  · obtain ⟨q, rfl⟩ : ∃ q, m = q + 1 := ⟨m - 1, by omega⟩
    simp only [Nat.add_zero] at hst
    simp [Builtin.clear_, run_underlying Try.underlying22, zero50, hzs, hst]
  · rw [cell_blk hg]
    have hlt : i * 4 + 0 + j < (flat M ++ ex).length := by rw [List.length_append]; omega
    rw [List.getElem?_toArray, List.getElem?_eq_getElem hlt]
    rfl
  · exact frz_blk hg _

set_option maxRecDepth 100000 in
set_option maxHeartbeats 3200000 in
theorem delete_any (w : World) (g c : Nat) (M : List Fr) (hR : RowF w g M) (hcc : M.length ≤ c) (gf gt : Nat) (f t : Int) (hc : OutC w gf gt f t) (h1 : gf ≠ g) (h2 : gt ≠ g) (hl : M.length ≤ 65536) :
    Calls Try.prog 44 #[.slice (some ⟨g, 0, none⟩) M.length c, outV gf gt] w fun e w' => Touch (fun k => k = g) w w' ∧
      e = .returned (.slice (some ⟨g, 0, none⟩) (M.filter (inB f t)).length c) ∧ RowF w' g (M.filter (inB f t)) := by
  have hI := index_any w _ c M (hR.sl hcc) gf gt f t hc hl
  unfold outV at hI ⊢
  replace hcc := Lib.hid hcc
  replace hl := Lib.hid hl
  replace hR := Lib.hid hR
  replace hc := Lib.hid hc
  obtain ⟨n, hn⟩ : ∃ n, n = M.length := ⟨_, rfl⟩
  have hI : Calls Try.prog 52 #[.slice (some ⟨g, 0, none⟩) n c, .func (.func 45) #[] #[.pointer (some ⟨gf, 0, none⟩), .pointer (some ⟨gt, 0, none⟩)]] w fun e w' => Touch Nothing w w' ∧
      ((e = .returned (.int .i64 (-1)) ∧ ∀ x ∈ M, outB f t x = false) ∨
       ∃ i, ∃ hi : i < M.length, e = .returned (.int .i64 (i : Int)) ∧ outB f t M[i] = true ∧ ∀ j (hj : j < i), outB f t M[j] = false) := by subst hn; exact hI
  rw [← hn]
  replace hI := Lib.hid hI
  replace hn := Lib.hid hn
  go_enter Try.func44, Try.ntmps44
  go_upto_if 12 with (go_at_call 52; refine hI.out.mono ?_; rintro e w1 ⟨ht1, hcase⟩; replace hcase := Lib.hid hcase; obtain ⟨rfl, hno⟩ | ⟨i0, hi0, rfl, hyes, hbef⟩ := hcase.out)
  · replace hno := Lib.hid hno
    go_wp2
    go_ret
    have e : M.filter (inB f t) = M := List.filter_eq_self.2 fun x hx => by simp [inB, hno.out x hx]
    rw [e, hn.out]
    exact ⟨ht1.mono fun _ _ q => q.elim, rfl, hR.out.keep ht1 (fun q => q)⟩
  · have hin : i0 < n := by have := hn.out; omega
    have hne : ((i0 : Int) == -1) = false := by (have : (i0 : Int) ≠ -1 := by omega); simp [this]
    have e3 : IntKind.i64.wrap ((i0 : Int) + 1) = (i0 : Int) + 1 := by rw [IntKind.wrap_i64]; have := hn.out; have := hl.out; omega
    replace hyes := Lib.hid hyes
    replace hbef := Lib.hid hbef
    go_wp2
    go_loopw [5, 6] (fun iv jv wr => ∃ (i j : Nat) (r : List Fr), i < j ∧ j ≤ n ∧ iv = .int .i64 (i : Int) ∧ jv = .int .i64 (j : Int) ∧ Hid (RowF wr g r) ∧ Touch (fun k => k = g) w wr ∧
      Hid (r.length = M.length ∧ r.take i = (M.take j).filter (inB f t) ∧ r.drop j = M.drop j)) (fun _ jv _ => n - (intOf jv).toNat)
    case atStart =>
      refine ⟨i0, i0 + 1, M, by omega, by omega, rfl, by simp, Lib.hid (hR.out.keep ht1 (fun q => q)), ht1.mono fun _ _ q => q.elim, Lib.hid ⟨rfl, ?_, rfl⟩⟩
      rw [List.take_add_one, List.getElem?_eq_getElem hi0, List.filter_append]
      have e1 : (M.take i0).filter (inB f t) = M.take i0 := List.filter_eq_self.2 fun x hx => by
        obtain ⟨j, hj, rfl⟩ := List.mem_iff_getElem.1 hx
        rw [List.getElem_take]
        rw [List.length_take] at hj
        unfold inB
        rw [hbef.out j (by omega)]; rfl
      rw [e1]
      simp [inB, hyes.out]
    case round =>
      obtain ⟨i, j, r, hij, hjn, rfl, rfl, hown, ht, hr⟩ := hrel
      clear hne e3
      have e3 : IntKind.i64.wrap ((j : Int) + 1) = (j : Int) + 1 := by rw [IntKind.wrap_i64]; have := hn.out; have := hl.out; omega
      have e4 : IntKind.i64.wrap ((i : Int) + 1) = (i : Int) + 1 := by rw [IntKind.wrap_i64]; have := hn.out; have := hl.out; omega
      by_cases hlt : j < n
      · have hjl : j < M.length := by have := hn.out; omega
        have hjr : j < r.length := by have := hr.out.1; omega
        have hir : i < r.length := by omega
        have hrx : r[j] = M[j] := by
          have := congrArg (fun z => z[0]?) hr.out.2.2
          simp only [List.getElem?_drop, Nat.add_zero, List.getElem?_eq_getElem hjr, List.getElem?_eq_getElem hjl] at this
          exact Option.some.inj this
        have hcs := hown.out.rng j hjr
        rw [hrx] at hcs
        obtain ⟨x, hx⟩ : ∃ x, x = M[j] := ⟨_, rfl⟩
        rw [← hx] at hcs
        obtain ⟨b, hbv⟩ : ∃ b, b = outB f t x := ⟨_, rfl⟩
        have hO := fun w' (ht' : Touch (fun k => k = g) w w') => out_any w' gf gt f t x (hc.out.keep ht' h1 h2).1 (hc.out.keep ht' h1 h2).2
        rw [← hbv] at hO
        obtain ⟨c0, c1, c2, c3⟩ := fr_cells hcs
        obtain ⟨xa, xf, xt, xl⟩ := x
        simp only [] at c0 c1 c2 c3
        unfold frV at hO
        simp only [] at hO
        have hi0 : (0 : Int) ≤ (i : Int) := by omega
        have hj0 : (0 : Int) ≤ (j : Int) := by omega
        have hjn1 : (j : Int) < (n : Int) := by omega
        have hin1 : (i : Int) < (n : Int) := by omega
        rw [hx] at hbv
        replace hO := Lib.hid hO
        replace hbv := Lib.hid hbv
        replace hx := Lib.hid hx
        replace hrx := Lib.hid hrx
        clear hcs
        have tA := Lib.hid (ht.alloc (.cells #[.int .i64 xa, .int .i64 xf, .int .i64 xt, .int .i64 xl] 50))
        have hbx := Lib.hid (heap_new wr (.cells #[.int .i64 xa, .int .i64 xf, .int .i64 xt, .int .i64 xl] 50))
        have hownA := Lib.hid (hown.out.keep ((Touch.refl Nothing wr).alloc (.cells #[.int .i64 xa, .int .i64 xf, .int .i64 xt, .int .i64 xl] 50)) (fun q => q))
        cases b
        · go_upto_region 9 with (go_at_call 45; refine (hO.out _ tA.out).mono ?_; rintro e w2 ⟨rfl, ht2⟩; have hbx2 := Lib.hid (ht2.heap hbx.out (fun q => q)); have hown2 := Lib.hid (hownA.out.keep ht2 (fun q => q)))
          refine wp_region_list ?_
          refine l_value rfl (run_move (v := .slice (some ⟨g, 0, none⟩) n c) rfl rfl) ?_
          simp only [Act.put, List.setIfInBounds_toArray, List.set_cons_zero, List.set_cons_succ]
          refine l_value rfl (run_move (v := .int .i64 (i : Int)) rfl rfl) ?_
          simp only [Act.put, List.setIfInBounds_toArray, List.set_cons_zero, List.set_cons_succ]
          refine l_value rfl (run_ldF (f := ⟨xa, xf, xt, xl⟩) rfl rfl (blk_rng hbx2.out)) ?_
          simp only [Act.put, List.setIfInBounds_toArray, List.set_cons_zero, List.set_cons_succ]
          refine l_value rfl (run_ia22 (z := (i : Int)) i rfl rfl rfl rfl (by omega)) ?_
          simp only [Act.put, List.setIfInBounds_toArray, List.set_cons_zero, List.set_cons_succ]
          refine wpList_plain rfl fun K hK => wp_stF rfl rfl rfl hown2.out hir (fun w3 hR3 t3 => hK _ _ ?_)
          clear hK K
          simp only [Act.put, List.setIfInBounds_toArray, List.set_cons_zero, List.set_cons_succ]
          refine wpList_nil ?_
          have hk := keep_yes (p := inB f t) hij hjl hr.out (by unfold inB; rw [← hbv.out]; rfl)
          have t4 := (tA.out.none ht2).trans t3 (fun _ _ q => q)
          rw [hx.out] at hR3
          replace hR3 := Lib.hid hR3
          replace hk := Lib.hid hk
          replace hown2 := Lib.hid hown2
          clear t3 ht2
          go_wp2
          go_roundw
          case rel =>
            (repeat apply Exists.intro)
            exact ⟨⟨i + 1, j + 1, r.set i M[j], by omega, by omega, by simp, by simp, hR3, t4, hk⟩, rfl⟩
          case measure => simp [intOf]; omega
        · go_wp2_with (go_at_call 45; refine (hO.out _ tA.out).mono ?_; rintro e w2 ⟨rfl, ht2⟩)
          have hk := keep_no (p := inB f t) hij hjl hr.out (by unfold inB; rw [← hbv.out]; rfl)
          go_roundw
          case rel =>
            (repeat apply Exists.intro)
            exact ⟨⟨i, j + 1, r, by omega, by omega, rfl, by simp, Lib.hid (hownA.out.keep ht2 (fun q => q)), tA.out.none ht2, Lib.hid hk⟩, rfl⟩
          case measure => simp [intOf]; omega
      · obtain rfl : j = n := by omega
        have hn' := hn.out
        have hcc' := hcc.out
        have hic : (i : Int) ≤ (c : Int) := by omega
        have hjc : (j : Int) ≤ (c : Int) := by omega
        have hjc2 : j ≤ c := by omega
        have hij2 : i ≤ j := by omega
        have hi0 : (0 : Int) ≤ (i : Int) := by omega
        have hijI : (i : Int) ≤ (j : Int) := by omega
        obtain ⟨r1, r2, r3⟩ := hr.out
        obtain ⟨zs, hcl⟩ : ∃ zs : List Value, ∀ ty c', (Builtin.clear_ #[22] ty #[.slice (some ⟨g, i * 4, none⟩) (j - i) c']).run Try.prog wr = .ok (.tuple #[]) (wr.setCells g (i * 4) zs) := by
          obtain ⟨m, hm⟩ : ∃ m, m = j - i := ⟨_, rfl⟩
          rw [← hm]
          exact ⟨_, fun ty c' => run_clear22 hown.out (by omega : i < r.length) ty c' m (by omega)⟩
        have hlf : (r.take i).length = i := by rw [List.length_take]; omega
        have hR3 : RowF wr g (r.take i) := by have := hown.out; rw [← List.take_append_drop i r] at this; exact this.left
        have hR4 := RowF.behinds zs (i * 4) wr hR3 (by rw [hlf]; exact Nat.le_refl _)
        have tz := ht.trans' (touch_setCells wr g zs (i * 4))
        rw [hn', List.take_length] at r2
        rw [r2] at hR4 hlf
        replace hR4 := Lib.hid hR4
        replace hlf := Lib.hid hlf
        replace hr := Lib.hid hr
        replace hown := Lib.hid hown
        replace hR3 := Lib.hid hR3
        clear r1 r2 r3 hn' hcc'
        go_wp2
        go_ret
        rw [hlf.out]
        exact ⟨tz, rfl, hR4.out⟩

end Go.Proofs.Ytkoplgpobagfoaa
