/-
  Layer 27: SameInts, and the law ViewCuts, walked.
-/
import Derived.Test.YtkoplgpobagfoaaWd
import Derived.Test.YtkoplgpobagfoaaWk
import Derived.Test.YtkoplgpobagfoaaFrs
namespace Go.Proofs.Ytkoplgpobagfoaa
open Go.RowKit
set_option linter.unusedVariables false
set_option linter.unusedSimpArgs false

/-- The slice (p, _, _) reads as these ints. -/
def InSl (w : World) (p : Option Addr) (ns : List Int) : Prop := ∀ i (h : i < ns.length), ∃ g o, p = some ⟨g, o, none⟩ ∧ w.cell? ⟨g, o + i, none⟩ = some (.int .i64 ns[i])

theorem InSl.keep {F : Nat → Prop} {w w' : World} {p : Option Addr} {ns : List Int} (h : InSl w p ns) (ht : Touch F w w') (hf : ∀ q, p = some q → ¬ F q.block) : InSl w' p ns :=
  fun i hi => by obtain ⟨g, o, e, hr⟩ := h i hi; exact ⟨g, o, e, ht.cell hr (hf ⟨g, o, none⟩ e)⟩

theorem RowN.inSl {w : World} {g : Nat} {ns : List Int} (h : RowN w g ns) : InSl w (some ⟨g, 0, none⟩) ns := fun i hi => ⟨g, 0, rfl, by
  rw [Nat.zero_add, h.cell i hi, List.getD_eq_getElem?_getD, List.getElem?_eq_getElem hi]; rfl⟩

theorem rates_sl {w w' : World} {v : Value} {ns : List Int} (h : (v = .slice none 0 0 ∧ ns = []) ∨ ∃ g, v = .slice (some ⟨g, 0, none⟩) ns.length ns.length ∧ RowN w' g ns ∧ w.heap.size ≤ g) :
    ∃ p c, v = .slice p ns.length c ∧ InSl w' p ns := by
  rcases h with ⟨rfl, rfl⟩ | ⟨g, rfl, hr, _⟩
  · exact ⟨none, 0, rfl, fun i hi => by simp at hi⟩
  · exact ⟨_, _, rfl, hr.inSl⟩

set_option maxRecDepth 100000 in
set_option maxHeartbeats 1600000 in
theorem sameInts_yes (w : World) (p q : Option Addr) (c d : Nat) (A : List Int) (hA : InSl w p A) (hB : InSl w q A) (hl : A.length ≤ 1048576) :
    Calls Try.prog 29 #[.slice p A.length c, .slice q A.length d] w fun r w' => r = .returned (.bool true) ∧ Touch Nothing w w' := by
  have e1 : ((A.length : Int) != (A.length : Int)) = false := by simp
  replace hA := Lib.hid hA
  replace hB := Lib.hid hB
  go_enter Try.func29, Try.ntmps29
  go_wp2
  go_loopw [5] (fun iv wr => ∃ k : Nat, k ≤ A.length ∧ iv = .int .i64 (k : Int) ∧ Touch Nothing w wr) (fun iv _ => A.length - (intOf iv).toNat)
  case atStart => exact ⟨0, Nat.zero_le _, rfl, Touch.refl _ _⟩
  case round =>
    obtain ⟨k, hk, rfl, ht⟩ := hrel
    by_cases hlt : k < A.length
    · obtain ⟨g, o, ha, hc⟩ := (hA.out.keep ht (fun _ _ q => q)) k hlt
      obtain ⟨g', o', ha', hc'⟩ := (hB.out.keep ht (fun _ _ q => q)) k hlt
      subst ha ha'
      obtain ⟨x, hx⟩ : ∃ x, x = A[k] := ⟨_, rfl⟩
      rw [← hx] at hc hc'
      have hk0 : (0 : Int) ≤ (k : Int) := by omega
      have hk1 : (k : Int) < (A.length : Int) := by omega
      have e3 : IntKind.i64.wrap ((k : Int) + 1) = (k : Int) + 1 := by rw [IntKind.wrap_i64]; omega
      have e4 : (x != x) = false := by simp
      replace hx := Lib.hid hx
      go_upto_region 6 with fail
      go_quiet (fail)
      go_wp2
      exact ⟨⟨k + 1, by omega, by simp, ht.drewN _⟩, by simp [intOf]; omega⟩
    · obtain rfl : k = A.length := by omega
      go_wp2
      go_ret
      exact ⟨rfl, ht⟩

theorem ratesR_len (M : List Fr) (f t wd : Int) : (ratesR M f t wd).1.length ≤ 1048576 := by
  have hr : ∀ (L : List Fr) (ns : List Int), (rgo f t wd ns L).length = ns.length := by
    intro L
    induction L with
    | nil => intro ns; rfl
    | cons x r ih => intro ns; rw [rgo, ih, rstep_len]
  unfold ratesR
  split
  · simp
  · split
    · simp
    · split
      · simp
      · split
        · simp
        · simp only [hr, List.length_replicate]; omega

theorem RowA.form {w0 w : World} {v : Value} {L : List Fr} (h : RowA w0 w v L) : ∃ p c, v = .slice p L.length c ∧ FrSl w p c L ∧ (L = [] ∨ ∃ g, p = some ⟨g, 0, none⟩ ∧ RowF w g L ∧ w0.heap.size ≤ g) := by
  rcases h with ⟨rfl, rfl⟩ | ⟨g, c, rfl, hr, hc, hg⟩
  · exact ⟨none, 0, rfl, ⟨Nat.zero_le _, fun i hi => by simp at hi⟩, .inl rfl⟩
  · exact ⟨_, c, rfl, hr.sl hc, .inr ⟨g, rfl, hr, hg⟩⟩

def Cells3 (w : World) (g : Nat) (x y z : Int) : Prop := w.cell? ⟨g, 0, none⟩ = some (.int .i64 x) ∧ w.cell? ⟨g, 1, none⟩ = some (.int .i64 y) ∧ w.cell? ⟨g, 2, none⟩ = some (.int .i64 z)
theorem Cells3.keep {w w' : World} {g : Nat} {x y z : Int} (h : Cells3 w g x y z) (ht : Touch Nothing w w') : Cells3 w' g x y z := ⟨ht.cell h.1 (fun q => q), ht.cell h.2.1 (fun q => q), ht.cell h.2.2 (fun q => q)⟩

theorem betR_len (M : List Fr) (f t : Int) : (betR M f t).1.length ≤ M.length := by
  unfold betR
  split
  · simp
  · split
    · simp
    · exact List.length_filter_le _ _

def away : Fr := ⟨-99, 0, 0, 0⟩
theorem run_away {a : Act} {w : World} {op : Oper} (ho : op.op = .build 50 #[(0, .const (.int .i64 (-99)))]) : (execOp a.eval op).run Try.prog w = .ok (.value (frV away)) w := by
  have h : (Instr.build 50 #[(0, .int .i64 (-99))]).run Try.prog w = .ok (frV away) w := by kernel_rfl
  have e : a.eval (.const (.int .i64 (-99))) = .int .i64 (-99) := rfl
  unfold execOp
  simp only [ho, List.map_toArray, List.map_cons, List.map_nil, e, Sem.run_bind, h, Result.andThen_ok, Sem.run_pure]

set_option maxRecDepth 100000 in
set_option maxHeartbeats 3200000 in
theorem viewCuts_walk (w : World) (p : Option Addr) (c : Nat) (L : List Fr) (h : FrA w (.slice p L.length c) L) (hl : L.length * 32 ≤ 140737488351232) (f t wd : Int) :
    Calls Try.prog 6 #[.slice p L.length c, .agg #[.int .i64 f, .int .i64 t, .int .i64 wd]] w fun r w' => r = .returned (.bool true) ∧ Touch Nothing w w' := by
  have hfs : ∀ w', Touch Nothing w w' → FrSl w' p c L := fun w' ht => by
    obtain ⟨p', c', e, hs⟩ := (h.keep ht (fun _ _ _ _ _ q => q)).sl
    cases e
    exact hs
  have tA := (Touch.refl Nothing w).alloc (.cells #[.int .i64 f, .int .i64 t, .int .i64 wd] 43)
  have hx := heap_new w (.cells #[.int .i64 f, .int .i64 t, .int .i64 wd] 43)
  have cA : Cells3 (w.alloc (.cells #[.int .i64 f, .int .i64 t, .int .i64 wd] 43)) w.heap.size f t wd := ⟨cell_blk hx 0, cell_blk hx 1, cell_blk hx 2⟩
  have hA := lend_any (w.alloc (.cells #[.int .i64 f, .int .i64 t, .int .i64 wd] 43)) _ L (h.keep tA (fun _ _ _ _ _ q => q)) hl
  have hB := fun w' g d (hL : Lent w' g d L) => Between_any w' _ L hL.toA f t
  have hB2 := fun w' (ht : Touch Nothing w w') => Between_ref w' p c L (hfs w' ht) f t
  have hR := fun w' g d (hL : Lent w' g d L) => Rates_any w' (some ⟨g, 0, none⟩) d L hL.sl f t wd
  have hR2 := fun w' (ht : Touch Nothing w w') => Rates_ref w' p c L (hfs w' ht) f t wd
  have hK := fun w' g d (hL : Lent w' g d L) (ht : Touch Nothing w w') => kept_any w' _ L g d hL (h.keep ht (fun _ _ _ _ _ q => q)) (by omega)
  have hW := Lib.hid (fun w => works_any w)
  have hll := betR_len L f t
  have hrl := ratesR_len L f t wd
  obtain ⟨⟨R, e⟩, hRe⟩ : ∃ x, x = betR L f t := ⟨_, rfl⟩
  obtain ⟨⟨N, e2⟩, hNe⟩ : ∃ x, x = ratesR L f t wd := ⟨_, rfl⟩
  rw [← hRe] at hB hB2 hll
  rw [← hNe] at hR hR2 hrl
  unfold RowPost at hB hB2
  unfold RatesPost at hR hR2
  simp only [] at hB hB2 hR hR2 hll hrl
  have hS := fun w' p q c d (h1 : FrSl w' p c R) (h2 : FrSl w' q d R) => same_any w' p q c d R R h1 h2 (by omega) true (by simp)
  have hI := fun w' p q c d (h1 : InSl w' p N) (h2 : InSl w' q N) => sameInts_yes w' p q c d N h1 h2 hrl
  have x1 : (e != e) = false := by simp
  have x2 : (e2 != e2) = false := by simp
  obtain ⟨n, hn⟩ : ∃ n, n = L.length := ⟨_, rfl⟩
  rw [← hn] at hA hB hB2 hR hR2 hK hl hll ⊢
  obtain ⟨m, hm⟩ : ∃ m, m = R.length := ⟨_, rfl⟩
  rw [← hm] at hS hll
  obtain ⟨k, hk⟩ : ∃ k, k = N.length := ⟨_, rfl⟩
  rw [← hk] at hI hrl
  replace hA := Lib.hid hA
  replace hB := Lib.hid hB
  replace hB2 := Lib.hid hB2
  replace hR := Lib.hid hR
  replace hR2 := Lib.hid hR2
  replace hK := Lib.hid hK
  replace hS := Lib.hid hS
  replace hI := Lib.hid hI
  replace tA := Lib.hid tA
  replace hm := Lib.hid hm
  replace hk := Lib.hid hk
  obtain ⟨z0, z1, z2⟩ := cA
  clear h hfs hRe hNe hn hx
  go_enter Try.func6, Try.ntmps6
  go_wp2_with (first
    | (go_at_call 11; refine hA.out.mono ?_; rintro r w1 ⟨g, d, rfl, hL1, hgw, t1⟩; have C1 := Cells3.keep ⟨z0, z1, z2⟩ t1; clear z0 z1 z2; obtain ⟨z0, z1, z2⟩ := C1; have T1 := Lib.hid (tA.out.trans' t1); replace hL1 := Lib.hid hL1; clear t1)
    | (go_at_call 25; refine (hB.out _ g d hL1.out).mono ?_; rintro r w2 ⟨v2, rfl, hR2', t2⟩; have C1 := Cells3.keep ⟨z0, z1, z2⟩ t2; clear z0 z1 z2; obtain ⟨z0, z1, z2⟩ := C1; have T2 := Lib.hid (T1.out.trans' t2); have hL2 := Lib.hid (hL1.out.keep t2 (fun q => q)); replace hR2' := Lib.hid hR2'; have s2 := Lib.hid t2.size; clear t2)
    | (go_at_call 26; refine (hB2.out _ T2.out).mono ?_; rintro r w3 ⟨v3, rfl, hR3', t3⟩; have C1 := Cells3.keep ⟨z0, z1, z2⟩ t3; clear z0 z1 z2; obtain ⟨z0, z1, z2⟩ := C1; have T3 := Lib.hid (T2.out.trans' t3); have hL3 := Lib.hid (hL2.out.keep t3 (fun q => q)); have A3 := Lib.hid (hR2'.out.keep t3 (fun _ _ q => q)); replace hR3' := Lib.hid hR3'; clear t3)
    | (go_at_call 27; refine (hR.out _ g d hL3.out).mono ?_; rintro r w4 ⟨v4, rfl, hN4, t4⟩; have C1 := Cells3.keep ⟨z0, z1, z2⟩ t4; clear z0 z1 z2; obtain ⟨z0, z1, z2⟩ := C1; have T4 := Lib.hid (T3.out.trans' t4); have hL4 := Lib.hid (hL3.out.keep t4 (fun q => q)); have A4 := Lib.hid (A3.out.keep t4 (fun _ _ q => q)); have B4 := Lib.hid (hR3'.out.keep t4 (fun _ _ q => q)); obtain ⟨p4, c4, rfl, hi4⟩ := rates_sl hN4; replace hi4 := Lib.hid hi4; rewrite [← hk.out]; clear hN4 t4)
    | (go_at_call 28; refine (hR2.out _ T4.out).mono ?_; rintro r w5 ⟨v5, rfl, hN5, t5⟩; clear z0 z1 z2; have T5 := Lib.hid (T4.out.trans' t5); have hL5 := Lib.hid (hL4.out.keep t5 (fun q => q)); obtain ⟨p2, c2, rfl, f2, fm⟩ := (A4.out.keep t5 (fun _ _ q => q)).form; obtain ⟨p3, c3, rfl, f3⟩ := (B4.out.keep t5 (fun _ _ q => q)).sl; obtain ⟨p5, c5, rfl, hi5⟩ := rates_sl hN5; replace hi5 := Lib.hid hi5; have hi4b := Lib.hid (hi4.out.keep t5 (fun _ _ q => q)); rewrite [← hk.out, ← hm.out]; replace f2 := Lib.hid f2; replace f3 := Lib.hid f3; replace fm := Lib.hid fm; clear hN5 t5)
    | (go_at_call 20; refine (hS.out _ p2 p3 c2 c3 f2.out f3.out).mono ?_; rintro r w6 ⟨rfl, t6⟩; have T6 := Lib.hid (T5.out.trans' t6); have hL6 := Lib.hid (hL5.out.keep t6 (fun q => q)); replace t6 := Lib.hid t6)
    | (go_at_call 29; refine (hI.out _ p4 p5 c4 c5 (hi4b.out.keep t6.out (fun _ _ q => q)) (hi5.out.keep t6.out (fun _ _ q => q))).mono ?_; rintro r w7 ⟨rfl, t7⟩; have T7 := Lib.hid (T6.out.trans' t7); have hL7 := Lib.hid (hL6.out.keep t7 (fun q => q)); replace t7 := Lib.hid t7))
  have fm7 : Hid (R = [] ∨ ∃ g, p2 = some ⟨g, 0, none⟩ ∧ RowF w7 g R ∧ w1.heap.size ≤ g) := Lib.hid (by
    rcases fm.out with h | ⟨g2, e, hr, hg⟩
    · exact .inl h
    · exact .inr ⟨g2, e, (hr.keep t6.out (fun q => q)).keep t7.out (fun q => q), hg⟩)
  have hcm : Hid (m ≤ c2) := Lib.hid (by have := f2.out.1; rw [hm.out]; exact this)
  have hgl : Hid (g < w1.heap.size) := Lib.hid (by obtain ⟨ex, hg⟩ := hL1.out.1; exact lt_of_heap hg)
  have hws : Hid (w.heap.size ≤ w1.heap.size) := Lib.hid T1.out.size
  clear fm f2 f3 A4 B4 hi4 hi5 hi4b hL1 hL2 hL3 hL4 hL5 hL6 T1 T2 T3 T4 T5 T6 t6 t7 hA hB hB2 hR hR2 hS hI A3 hR2' hR3' s2 tA
  go_loopw [14] (fun iv wr => ∃ i : Nat, i ≤ m ∧ iv = .int .i64 (i : Int) ∧ Touch (fun k => w1.heap.size ≤ k) w7 wr ∧ Hid (R = [] ∨ ∃ g r, p2 = some ⟨g, 0, none⟩ ∧ RowF wr g r ∧ r.length = R.length ∧ w1.heap.size ≤ g)) (fun iv _ => m - (intOf iv).toNat)
  case atStart =>
    refine ⟨0, Nat.zero_le _, rfl, Touch.refl _ _, Lib.hid ?_⟩
    rcases fm7.out with h | ⟨g2, e, hr, hg⟩
    · exact .inl h
    · exact .inr ⟨g2, R, e, hr, rfl, hg⟩
  case round =>
    obtain ⟨i, hi, rfl, ht, hf⟩ := hrel
    by_cases hlt : i < m
    · rcases hf.out with h | ⟨g2, r, e, hr, hrl, hg2⟩
      · exfalso
        have := hm.out
        subst h
        simp at this
        omega
      subst e
      have hrm : r.length = m := by rw [hm.out, hrl]
      have e3 : IntKind.i64.wrap ((i : Int) + 1) = (i : Int) + 1 := by rw [IntKind.wrap_i64]; omega
      replace hr := Lib.hid hr
      clear fm7 hf
      go_upto_region 11 with fail
      refine wp_region_list ?_
      refine l_value rfl (run_move (v := .slice (some ⟨g2, 0, none⟩) m c2) rfl rfl) ?_
      simp only [Act.put, List.setIfInBounds_toArray, List.set_cons_zero, List.set_cons_succ]
      refine l_value rfl (run_move (v := .int .i64 (i : Int)) rfl rfl) ?_
      simp only [Act.put, List.setIfInBounds_toArray, List.set_cons_zero, List.set_cons_succ]
      refine l_value rfl (run_away rfl) ?_
      simp only [Act.put, List.setIfInBounds_toArray, List.set_cons_zero, List.set_cons_succ]
      refine l_value rfl (run_ia22 (z := (i : Int)) i rfl rfl rfl rfl hlt) ?_
      simp only [Act.put, List.setIfInBounds_toArray, List.set_cons_zero, List.set_cons_succ]
      refine wpList_plain rfl fun K hK => wp_stF rfl rfl rfl hr.out (by omega) (fun w8 hR8 t8 => hK _ _ ?_)
      clear hK K
      simp only [Act.put, List.setIfInBounds_toArray, List.set_cons_zero, List.set_cons_succ]
      refine wpList_nil ?_
      have hf2 : Hid (R = [] ∨ ∃ g r, (some ⟨g2, 0, none⟩ : Option Addr) = some ⟨g, 0, none⟩ ∧ RowF w8 g r ∧ r.length = R.length ∧ w1.heap.size ≤ g) := Lib.hid (.inr ⟨g2, r.set i away, rfl, hR8, by rw [List.length_set]; exact hrl, hg2⟩)
      have t9 := ht.trans t8 (fun k _ q => by subst q; exact hg2)
      clear hR8 t8
      go_wp2
      exact ⟨⟨i + 1, by omega, by simp, t9, hf2⟩, by simp [intOf]; omega⟩
    · obtain rfl : i = m := by omega
      have T8 := T7.out.trans ht (fun k hk q => by have := hws.out; omega)
      have hL8 := Lib.hid (hL7.out.keep ht (fun q => by have := hgl.out; omega))
      replace T8 := Lib.hid T8
      clear fm7 hf ht
      go_wp2_with (first
        | (go_at_call 16; refine (hK.out _ g d hL8.out T8.out).mono ?_; rintro r w9 ⟨rfl, t9⟩; replace t9 := Lib.hid t9)
        | (go_at_call 17; refine (hW.out _).mono ?_; rintro r w10 ⟨rfl, t10⟩))
      go_ret
      exact ⟨rfl, (T8.out.trans' t9.out).trans' t10⟩

theorem ViewCuts_walk (w : World) (a : Option Addr) (c : Nat) (L : List Fr) (h : FrA w (.slice a L.length c) L) (hz : ∀ x ∈ L, x.inR) (hl : L.length * 32 ≤ 140737488351232) (f : Int) (hf : -9223372036854775808 ≤ f ∧ f ≤ 9223372036854775807) (g : Int) (hg : -9223372036854775808 ≤ g ∧ g ≤ 9223372036854775807) (i : Int) (hi : -9223372036854775808 ≤ i ∧ i ≤ 9223372036854775807) :
    Calls Try.prog 6 #[.slice a L.length c, .agg #[.int .i64 f, .int .i64 g, .int .i64 i]] w fun r w' => r = .returned (.bool true) ∧ Below w.heap.size w w' :=
  (viewCuts_walk w a c L h hl f g i).mono fun r w' q => ⟨q.1, q.2.toBelow0 fun _ _ q => q⟩

end Go.Proofs.Ytkoplgpobagfoaa
