/-
  Layer 27: slices of views; Grow, Concat, the order of ticks and Join, walked.
-/
import Derived.Test.YtkoplgpobagfoaaLq
import Derived.Lib.AppendZeros
namespace Go.Proofs.Ytkoplgpobagfoaa
open Go.RowKit
set_option linter.unusedVariables false
set_option linter.unusedSimpArgs false

/-- A slice of views that reads as these. -/
def Vws (w : World) (p : Option Addr) (c : Nat) (ts : List (Value × List Fr)) : Prop :=
  ts.length ≤ c ∧ ∀ i (h : i < ts.length), (∃ g o, p = some ⟨g, o, none⟩ ∧ w.cell? ⟨g, o + i, none⟩ = some ts[i].1) ∧ FrA w ts[i].1 ts[i].2

theorem Vws.keep {w w' : World} {p : Option Addr} {c : Nat} {ts : List (Value × List Fr)} (h : Vws w p c ts) (ht : Touch Nothing w w') : Vws w' p c ts :=
  ⟨h.1, fun i hi => by
    obtain ⟨⟨g, o, e, hc⟩, hA⟩ := h.2 i hi
    exact ⟨⟨g, o, e, ht.cell hc (fun q => q)⟩, hA.keep ht (fun _ _ _ _ _ q => q)⟩⟩

def lens (Ls : List (List Fr)) : Nat := (Ls.map List.length).sum
theorem lens_flat (Ls : List (List Fr)) : Ls.flatten.length = lens Ls := by unfold lens; rw [List.length_flatten]
theorem lens_take (Ls : List (List Fr)) (i : Nat) : lens (Ls.take i) ≤ lens Ls := by
  have : Ls = Ls.take i ++ Ls.drop i := (List.take_append_drop i Ls).symm
  conv => rhs; rw [this]
  unfold lens
  rw [List.map_append, List.sum_append]
  omega
theorem lens_snoc (Ls : List (List Fr)) (i : Nat) (h : i < Ls.length) : lens (Ls.take (i + 1)) = lens (Ls.take i) + Ls[i].length := by
  unfold lens
  rw [List.take_succ_eq_append_getElem h, List.map_append, List.sum_append]
  simp
theorem flat_snoc (Ls : List (List Fr)) (i : Nat) (h : i < Ls.length) : (Ls.take (i + 1)).flatten = (Ls.take i).flatten ++ Ls[i] := by
  rw [List.take_succ_eq_append_getElem h, List.flatten_append]
  simp

/-! ### Grow -/

set_option maxRecDepth 100000 in
theorem Grow_any (w : World) (n : Nat) (hn : n ≤ 65536) : Calls Try.prog 53 #[.slice none 0 0, .int .i64 (n : Int)] w fun r w' => ∃ v, r = .returned v ∧ OwnF w w' v [] ∧ Touch Nothing w w' := by
  have x1 : ¬ (n : Int) < 0 := by omega
  have x2 : IntKind.i64.wrap (n : Int) = (n : Int) := wraps_i64 _ (by omega) (by omega)
  by_cases h0 : n = 0
  · subst h0
    have k0 := OwnF.nil w w
    go_enter Try.func53, Try.ntmps53
    go_wp2
    go_ret
    exact ⟨_, rfl, k0, Touch.refl _ _⟩
  · have x3 : (0 : Int) < (n : Int) := by omega
    have hi : (Try.prog.info? 50).map (fun i => (i.zero, i.size, i.bytes)) = some (some (.agg #[.int .i64 0, .int .i64 0, .int .i64 0, .int .i64 0]), 4, 32) := by kernel_rfl
    cases hq : Try.prog.info? 50 with
    | none => simp [hq] at hi
    | some i =>
    rw [hq] at hi
    simp only [Option.map_some, Option.some.injEq, Prod.mk.injEq] at hi
    obtain ⟨hz, hsz, hby⟩ := hi
    have hr := fun ty => Lib.run_append_nil_zeros (P := Try.prog) w 22 3 ty 50 i _ .i64 .i64 Try.underlying22 Try.underlying3 hq hz n (by omega) (by rw [hsz]; omega) (by omega) (by rw [hby]; omega)
    have hle := grownCap_le_maxLen w n 0 50 (by unfold maxLen; omega)
    have hge := grownCap_ge w n 0 50
    obtain ⟨cap, hcap⟩ : ∃ c, c = grownCap w n 0 50 := ⟨_, rfl⟩
    rw [← hcap] at hr hle hge
    obtain ⟨Z, hZ⟩ : ∃ Z, Z = Builtin.zeroCells (Value.agg #[.int .i64 0, .int .i64 0, .int .i64 0, .int .i64 0]).cells n ++ Builtin.zeroCells (Value.agg #[.int .i64 0, .int .i64 0, .int .i64 0, .int .i64 0]).cells (cap - n) := ⟨_, rfl⟩
    rw [← hZ] at hr
    have hZs : Z.size = cap * 4 := by
      have e : (Value.agg #[.int .i64 0, .int .i64 0, .int .i64 0, .int .i64 0]).cells.size = 4 := rfl
      rw [hZ]
      simp [size_zeroCells, e]
      omega
    have hg : (w.drew.alloc (.cells Z 50)).heap[w.heap.size]? = some (.cells Z 50 (0, 0)) := heap_new w.drew (.cells Z 50)
    have hO : OwnF w (w.drew.alloc (.cells Z 50)) (.slice (some ⟨w.heap.size, 0, none⟩) 0 cap) [] :=
      ⟨⟨rfl, .inr ⟨w.heap.size, cap, Z, rfl, Nat.zero_le _, hg, Nat.zero_le _, hle, hZs, rfl⟩⟩, fun b hb => by have e : w.heap.size = b := (by simpa [Value.ownBlock] using hb); omega⟩
    have tt := (Touch.refl Nothing w).drew.alloc (.cells Z 50)
    have hh := Lib.hid (And.intro hO tt)
    have x4 : (0 : Int) ≤ (cap : Int) := by omega
    replace hr := Lib.hid hr
    clear hq hz hsz hby hZ hZs hg hO tt hcap hle hge
    go_enter Try.func53, Try.ntmps53
    go_wp2_with (first | (at_builtin; refine wpList_plain rfl fun K hK => Lib.wp_append_run w _ _ _ _ rfl _ _ rfl rfl _ _ (hr.out _) (hK _ _ ?_); clear hK K))
    go_ret
    exact ⟨_, rfl, hh.out.1, hh.out.2⟩

/-! ### Concat -/

set_option maxRecDepth 100000 in
set_option maxHeartbeats 1600000 in
theorem Concat_any (w : World) (p : Option Addr) (c : Nat) (ts : List (Value × List Fr)) (h : Vws w p c ts) (hn : lens (ts.map Prod.snd) ≤ 65536) (htl : ts.length ≤ 4611686018427387904) :
    Calls Try.prog 46 #[.slice p ts.length c] w fun r w' => ∃ v, r = .returned v ∧ OwnF w w' v (ts.map Prod.snd).flatten ∧ Touch Nothing w w' := by
  obtain ⟨n, hnl⟩ : ∃ n, n = ts.length := ⟨_, rfl⟩
  obtain ⟨Ls, hLs⟩ : ∃ Ls, Ls = ts.map Prod.snd := ⟨_, rfl⟩
  have hll : Ls.length = n := by rw [hLs, List.length_map, hnl]
  have hgi : ∀ i (h1 : i < ts.length) (h2 : i < Ls.length), ts[i].2 = Ls[i] := fun i h1 h2 => by subst hLs; simp
  rw [← hnl] at htl ⊢
  rw [← hLs] at hn ⊢
  have hG := fun w' => Grow_any w' (lens Ls) hn
  obtain ⟨N, hN⟩ : ∃ N, N = lens Ls := ⟨_, rfl⟩
  rw [← hN] at hG hn
  replace h := Lib.hid h
  replace hnl := Lib.hid hnl
  replace hLs := Lib.hid hLs
  replace hll := Lib.hid hll
  replace hgi := Lib.hid hgi
  replace hG := Lib.hid hG
  replace hN := Lib.hid hN
  go_enter Try.func46, Try.ntmps46
  go_wp2
  go_loopw [3, 11] (fun sv iv wr => ∃ i s : Nat, i ≤ n ∧ sv = .int .i64 (s : Int) ∧ iv = .int .i64 (i : Int) ∧ Hid (s = lens (Ls.take i)) ∧ Touch Nothing w wr) (fun _ iv _ => n - (intOf iv).toNat)
  case atStart => exact ⟨0, 0, Nat.zero_le _, rfl, rfl, Lib.hid (by simp [lens]), Touch.refl _ _⟩
  case round =>
    obtain ⟨i, s, hi, rfl, rfl, hs, ht⟩ := hrel
    by_cases hlt : i < n
    · have hit : i < ts.length := by rw [← hnl.out]; exact hlt
      have hiL : i < Ls.length := by rw [hll.out]; exact hlt
      obtain ⟨⟨g, o, rfl, hc⟩, hA⟩ := (h.out.keep ht).2 i hit
      have e1 := lens_snoc Ls i hiL
      have e2 := lens_take Ls (i + 1)
      have e3 := hgi.out i hit hiL
      have e4 := hs.out
      have e5 := hN.out
      obtain ⟨q, d, hv, hsl⟩ := hA.sl
      rw [e3] at hv
      rw [hv] at hc
      obtain ⟨m, hm⟩ : ∃ m, m = Ls[i].length := ⟨_, rfl⟩
      rw [← hm] at hc e1
      obtain ⟨s2, hs2⟩ : ∃ s2, s2 = s + m := ⟨_, rfl⟩
      have x1 : (s : Int) + (m : Int) = (s2 : Int) := by omega
      have x2 : IntKind.i64.wrap (s2 : Int) = (s2 : Int) := wraps_i64 _ (by omega) (by omega)
      have x3 : ¬ (s2 : Int) < 0 := by omega
      have x4 : Hid (s2 = lens (Ls.take (i + 1))) := Lib.hid (by omega)
      have x5 : (0 : Int) ≤ (i : Int) := by omega
      have x6 : (i : Int) < (n : Int) := by omega
      have x7 : IntKind.i64.wrap ((i : Int) + 1) = (i : Int) + 1 := by rw [IntKind.wrap_i64]; omega
      replace hm := Lib.hid hm
      replace hv := Lib.hid hv
      clear e1 e2 e3 e4 e5 hs2 hA hsl hs
      go_wp2
      exact ⟨⟨i + 1, s2, by omega, rfl, by simp, x4, ht⟩, by simp [intOf]; omega⟩
    · have e1 := hs.out
      rw [List.take_of_length_le (by rw [hll.out]; omega), ← hN.out] at e1
      subst e1
      have x1 : ¬ (i : Int) < (n : Int) := by omega
      clear hs hi
      go_wp2_with (first | (go_at_call 53; refine (hG.out _).mono ?_; rintro r w2 ⟨v2, rfl, hO2, t2⟩; replace hO2 := Lib.hid (show OwnF w w2 v2 [] from ⟨hO2.1, fun b hb => Nat.le_trans ht.size (hO2.2 b hb)⟩); replace t2 := ht.trans' t2))
      go_loopw [6, 27] (fun sv iv wr => ∃ (i : Nat) (v : Value), i ≤ n ∧ sv = v ∧ iv = .int .i64 (i : Int) ∧ Hid (OwnF w wr v (Ls.take i).flatten) ∧ Touch Nothing w wr) (fun _ iv _ => n - (intOf iv).toNat)
      case atStart => exact ⟨0, v2, Nat.zero_le _, rfl, rfl, Lib.hid hO2.out, t2⟩
      case round =>
        clear hO2 t2 hlt x1 ht
        obtain ⟨i, v, hi, rfl, rfl, hO, ht⟩ := hrel
        by_cases hlt : i < n
        · have hit : i < ts.length := by rw [← hnl.out]; exact hlt
          have hiL : i < Ls.length := by rw [hll.out]; exact hlt
          obtain ⟨⟨g, o, rfl, hc⟩, hA⟩ := (h.out.keep ht).2 i hit
          have e3 := hgi.out i hit hiL
          have e1 := lens_snoc Ls i hiL
          have e2 := lens_take Ls (i + 1)
          have e5 := hN.out
          have e6 := lens_flat (Ls.take i)
          have e7 := flat_snoc Ls i hiL
          rw [e3] at hA
          have hroom : ((Ls.take i).flatten.length + Ls[i].length) * 32 ≤ 140737488355328 := by omega
          obtain ⟨y, hy⟩ : ∃ y, y = ts[i].1 := ⟨_, rfl⟩
          obtain ⟨M, hM⟩ : ∃ M, M = Ls[i] := ⟨_, rfl⟩
          rw [← hy] at hc hA
          rw [← hM] at hA e7 hroom
          have x5 : (0 : Int) ≤ (i : Int) := by omega
          have x6 : (i : Int) < (n : Int) := by omega
          have x7 : IntKind.i64.wrap ((i : Int) + 1) = (i : Int) + 1 := by rw [IntKind.wrap_i64]; omega
          replace hA := Lib.hid hA
          replace hy := Lib.hid hy
          replace hM := Lib.hid hM
          replace e7 := Lib.hid e7
          replace hroom := Lib.hid hroom
          clear e1 e2 e3 e5 e6
          go_wp2_with (first | (at_builtin; refine wpList_plain rfl fun K hK => wp_appS (L := (Ls.take i).flatten) (M := M) (.tmp 31) (.tmp 32) rfl rfl hO.out rfl hA.out ht hroom.out (fun v' w' hO' t' tg => hK _ _ ?_); clear hK K; rewrite [← e7.out] at hO'; replace hO' := Lib.hid hO'; clear tg))
          exact ⟨⟨i + 1, _, by omega, rfl, by simp, hO', t'⟩, by simp [intOf]; omega⟩
        · have e1 := hO.out
          rw [List.take_of_length_le (by rw [hll.out]; omega)] at e1
          have hfin := Lib.hid (And.intro e1 ht)
          have x1 : ¬ (i : Int) < (n : Int) := by omega
          clear e1 ht hO
          go_wp2
          go_ret
          exact ⟨_, rfl, hfin.out.1, hfin.out.2⟩

/-! ### The order of ticks, and Join -/

def cmpA (x y : Fr) : Int := cmpI x.a y.a
theorem cmpA_iff (x y : Fr) : cmpA x y < 0 ↔ x.a < y.a := by
  unfold cmpA cmpI
  split <;> try split
  all_goals omega
theorem weakA : Weak cmpA := ⟨fun x y h => by rw [cmpA_iff] at h ⊢; omega, fun x y z h1 h2 => by rw [cmpA_iff] at h1 h2 ⊢; omega⟩

theorem cf47 (args : Array Value) (w : World) : (callFunc 47 args).run Try.prog w = .ok (.enter 47 args) w := by kernel_rfl

set_option maxRecDepth 100000 in
theorem less_at (w : World) (x y : Fr) : Calls Try.prog 47 #[frV x, frV y] w fun r w' => r = .returned (.int .i64 (cmpA x y)) ∧ Touch Nothing w w' := by
  have h1 := heap_new w (.cells (frCs x).toArray 50)
  have h2 := heap_new (w.alloc (.cells (frCs x).toArray 50)) (.cells (frCs y).toArray 50)
  have h1' := ((Touch.refl Nothing (w.alloc (.cells (frCs x).toArray 50))).alloc (.cells (frCs y).toArray 50)).heap h1 (fun q => q)
  have tt := ((Touch.refl Nothing w).alloc (.cells (frCs x).toArray 50)).alloc (.cells (frCs y).toArray 50)
  have x1 := (cell_blk h1' 0).trans (show (frCs x).toArray[0]? = some (.int .i64 x.a) from rfl)
  have y1 := (cell_blk h2 0).trans (show (frCs y).toArray[0]? = some (.int .i64 y.a) from rfl)
  have hC := Lib.hid (fun w => cmp_any w x.a y.a)
  obtain ⟨z, hz⟩ : ∃ z, z = cmpA x y := ⟨_, rfl⟩
  have hz2 : cmpI x.a y.a = z := hz.symm
  rw [hz2] at hC
  rw [← hz]
  clear h1 h1' h2 hz hz2
  go_enter Try.func47, Try.ntmps47
  go_upto_region 0 with fail
  refine wp_region_list ?_
  refine l_value rfl (run_box50 (f := x) rfl rfl) ?_
  simp only [Act.put, List.setIfInBounds_toArray, List.set_cons_zero, List.set_cons_succ]
  refine l_value rfl (run_box50 (f := y) rfl rfl) ?_
  simp only [Act.put, List.setIfInBounds_toArray, List.set_cons_zero, List.set_cons_succ]
  refine l_value rfl (run_asgn rfl rfl) ?_
  simp only [Act.put, List.setIfInBounds_toArray, List.set_cons_zero, List.set_cons_succ]
  refine wpList_nil ?_
  obtain ⟨W, eW⟩ : ∃ W, W = (w.alloc (.cells (frCs x).toArray 50)).alloc (.cells (frCs y).toArray 50) := ⟨_, rfl⟩
  rw [← eW] at x1 y1 tt ⊢
  obtain ⟨gx, egx⟩ : ∃ g, g = w.heap.size := ⟨_, rfl⟩
  obtain ⟨gy, egy⟩ : ∃ g, g = (w.alloc (.cells (frCs x).toArray 50)).heap.size := ⟨_, rfl⟩
  rw [← egy] at y1 ⊢
  rw [← egx] at x1 ⊢
  clear eW egx egy
  go_wp2_with (first | (go_at_call 37; refine (hC.out _).mono ?_; rintro r w2 ⟨rfl, rfl⟩))
  go_ret
  exact ⟨rfl, tt⟩

/-- The first view that may not be, says what is wrong. -/
def jerr : List (List Fr) → Int
  | [] => 0
  | L :: r => if (chkR L).2 ≠ 0 then (chkR L).2 else jerr r
def joinR (Ls : List (List Fr)) : List Fr × Int := if jerr Ls ≠ 0 then ([], jerr Ls) else if 65536 < lens Ls then ([], 2) else (insS cmpA 0 Ls.flatten.length Ls.flatten, 0)

theorem jerr_drop (Ls : List (List Fr)) (i : Nat) (h : i < Ls.length) : jerr (Ls.drop i) = if (chkR Ls[i]).2 ≠ 0 then (chkR Ls[i]).2 else jerr (Ls.drop (i + 1)) := by
  rw [List.drop_eq_getElem_cons h]
  rfl

theorem sortRow {w0 w : World} {v : Value} {L : List Fr} (F : Nat) (cf : Fr → Fr → Int) (h : OwnF w0 w v L) (ht : Touch Nothing w0 w) (hsort : Sorts F cf L) :
    Calls Try.prog 34 #[v, .func (.func F) #[] #[]] w fun r w' => r = .returned (.tuple #[]) ∧ RowA w0 w' v (insS cf 0 L.length L) ∧ Touch Nothing w0 w' := by
  rcases h.row with ⟨rfl, rfl⟩ | ⟨g, c, rfl, hr, hc, hg⟩
  · exact (sort_nil F w).mono fun r w' q => ⟨q.1, .inl ⟨rfl, List.eq_nil_of_length_eq_zero (by rw [insS_len]; rfl)⟩, ht.trans' q.2⟩
  · exact (hsort w g c hr).mono fun r w' q => ⟨q.1, .inr ⟨g, c, by rw [insS_len], q.2.1, by rw [insS_len]; exact hc, hg⟩, ht.trans q.2.2 fun i hi e => by omega⟩

set_option maxRecDepth 100000 in
set_option maxHeartbeats 1600000 in
theorem Join_any (w : World) (p : Option Addr) (c : Nat) (ts : List (Value × List Fr)) (h : Vws w p c ts) (htl : ts.length ≤ 8796093022208) :
    Calls Try.prog 30 #[.slice p ts.length c] w (RowPost w (joinR (ts.map Prod.snd))) := by
  obtain ⟨n, hnl⟩ : ∃ n, n = ts.length := ⟨_, rfl⟩
  obtain ⟨Ls, hLs⟩ : ∃ Ls, Ls = ts.map Prod.snd := ⟨_, rfl⟩
  have hll : Ls.length = n := by rw [hLs, List.length_map, hnl]
  have hgi : ∀ i (h1 : i < ts.length) (h2 : i < Ls.length), ts[i].2 = Ls[i] := fun i h1 h2 => by subst hLs; simp
  have hCc : lens Ls ≤ 65536 → ∀ w', Touch Nothing w w' → Calls Try.prog 46 #[.slice p ts.length c] w' fun r w2 => ∃ v, r = .returned v ∧ OwnF w' w2 v Ls.flatten ∧ Touch Nothing w' w2 := fun hn w' ht => by
    rw [hLs] at hn ⊢
    exact Concat_any w' p c ts (h.keep ht) hn (by omega)
  have hSo : lens Ls ≤ 65536 → Sorts 47 cmpA Ls.flatten := fun hn => sorts_any 47 cmpA cf47 (fun w x y => less_at w x y) weakA _ (by rw [lens_flat]; omega)
  obtain ⟨res, hres⟩ : ∃ r, r = joinR Ls := ⟨_, rfl⟩
  rw [← hnl] at htl hCc ⊢
  rw [← hLs, ← hres]
  unfold joinR at hres
  replace h := Lib.hid h
  replace hnl := Lib.hid hnl
  replace hLs := Lib.hid hLs
  replace hll := Lib.hid hll
  replace hgi := Lib.hid hgi
  replace hCc := Lib.hid hCc
  replace hSo := Lib.hid hSo
  replace hres := Lib.hid hres
  go_enter Try.func30, Try.ntmps30
  go_wp2
  go_loopw [4, 12] (fun sv iv wr => ∃ i s : Nat, i ≤ n ∧ sv = .int .i64 (s : Int) ∧ iv = .int .i64 (i : Int) ∧ Hid (s = lens (Ls.take i) ∧ s ≤ 65536 * i ∧ jerr (Ls.drop i) = jerr Ls) ∧ Touch Nothing w wr) (fun _ iv _ => n - (intOf iv).toNat)
  case atStart => exact ⟨0, 0, Nat.zero_le _, rfl, rfl, Lib.hid ⟨by simp [lens], Nat.zero_le _, rfl⟩, Touch.refl _ _⟩
  case round =>
    obtain ⟨i, s, hi, rfl, rfl, hs, ht⟩ := hrel
    by_cases hlt : i < n
    · have hit : i < ts.length := by rw [← hnl.out]; exact hlt
      have hiL : i < Ls.length := by rw [hll.out]; exact hlt
      obtain ⟨⟨g, o, rfl, hc⟩, hA⟩ := (h.out.keep ht).2 i hit
      have e1 := lens_snoc Ls i hiL
      have e3 := hgi.out i hit hiL
      obtain ⟨e4, e5, e6⟩ := hs.out
      rw [jerr_drop Ls i hiL] at e6
      rw [e3] at hA
      obtain ⟨q, d, hv, hsl⟩ := hA.sl
      rw [hv] at hc
      have hC := Check_any wr q d _ hsl
      have hlen : (chkR Ls[i]).2 = 0 → Ls[i].length ≤ 65536 := fun h => (chkR_ok h).1
      obtain ⟨m, hm⟩ : ∃ m, m = Ls[i].length := ⟨_, rfl⟩
      obtain ⟨⟨at_, e⟩, hq⟩ : ∃ y, y = chkR Ls[i] := ⟨_, rfl⟩
      rw [← hq] at hC e6 hlen
      rw [← hm] at hc e1 hC hlen
      simp only [] at hC e6 hlen
      have x5 : (0 : Int) ≤ (i : Int) := by omega
      have x6 : (i : Int) < (n : Int) := by omega
      have x7 : IntKind.i64.wrap ((i : Int) + 1) = (i : Int) + 1 := by rw [IntKind.wrap_i64]; omega
      replace hC := Lib.hid hC
      replace hm := Lib.hid hm
      replace hv := Lib.hid hv
      clear e3 hA hsl hs hq
      by_cases he : e = 0
      · subst he
        rw [if_neg (by simp)] at e6
        replace hlen := hlen rfl
        obtain ⟨s2, hs2⟩ : ∃ s2, s2 = s + m := ⟨_, rfl⟩
        have x1 : (s : Int) + (m : Int) = (s2 : Int) := by omega
        have x2 : IntKind.i64.wrap (s2 : Int) = (s2 : Int) := wraps_i64 _ (by omega) (by omega)
        have x4 : Hid (s2 = lens (Ls.take (i + 1)) ∧ s2 ≤ 65536 * (i + 1) ∧ jerr (Ls.drop (i + 1)) = jerr Ls) := Lib.hid ⟨by omega, by omega, e6⟩
        clear e1 e4 e5 e6 hs2 hlen
        go_wp2_with (first | (go_at_call 21; refine hC.out.mono ?_; rintro r w2 ⟨rfl, t2⟩; replace t2 := ht.trans' t2))
        exact ⟨⟨i + 1, s2, by omega, rfl, by simp, x4, t2⟩, by simp [intOf]; omega⟩
      · rw [if_pos (by simpa using he)] at e6
        have hr := hres.out
        rw [← e6, if_pos (by simpa using he)] at hr
        subst hr
        have y1 : (e == 0) = false := by simp [he]
        have y2 : (e != 0) = true := by simp [he]
        clear hres e1 e4 e5 e6 hlen
        go_wp2_with (first | (go_at_call 21; refine hC.out.mono ?_; rintro r w2 ⟨rfl, t2⟩; replace t2 := ht.trans' t2))
        go_ret2
        exact ⟨_, rfl, .inl ⟨rfl, rfl⟩, t2⟩
    · obtain ⟨e4, _, e6⟩ := hs.out
      rw [List.take_of_length_le (by rw [hll.out]; omega)] at e4
      rw [List.drop_of_length_le (by rw [hll.out]; omega)] at e6
      have hr := hres.out
      rw [← e6, if_neg (by simp [jerr]), ← e4] at hr
      have x1 : ¬ (i : Int) < (n : Int) := by omega
      clear hres e6 hs
      by_cases hb : 65536 < s
      · rw [if_pos hb] at hr
        subst hr
        have x2 : (65536 : Int) < (s : Int) := by omega
        clear e4 hb
        go_wp2
        go_ret2
        exact ⟨_, rfl, .inl ⟨rfl, rfl⟩, ht⟩
      · rw [if_neg hb] at hr
        subst hr
        have x2 : ¬ (65536 : Int) < (s : Int) := by omega
        have hc := hCc.out (by omega) wr ht
        have hso := hSo.out (by omega)
        replace hc := Lib.hid hc
        replace hso := Lib.hid hso
        clear e4 hb hCc hSo
        go_wp2_with (first
          | (go_at_call 46; refine hc.out.mono ?_; rintro r w2 ⟨v2, rfl, hO2, t2⟩; have hS := Lib.hid (sortRow 47 cmpA hO2 t2 hso.out); clear hO2 t2)
          | (go_at_call 34; refine hS.out.mono ?_; rintro r w3 ⟨rfl, hR, t3⟩; replace hR := Lib.hid hR))
        go_ret2
        exact ⟨_, rfl, hR.out.weak ht.size, ht.trans' t3⟩

end Go.Proofs.Ytkoplgpobagfoaa
