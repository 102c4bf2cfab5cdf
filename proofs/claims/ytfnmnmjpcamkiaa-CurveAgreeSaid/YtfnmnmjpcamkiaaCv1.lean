/-
  Layer 2: small, by, square, sums, walked.
-/
import Derived.Test.YtfnmnmjpcamkiaaPst
import Derived.Test.YtfnmnmjpcamkiaaPsm
namespace Go.Proofs.Ytfnmnmjpcamkiaa
open Go.RowKit
set_option linter.unusedVariables false
set_option linter.unusedSimpArgs false

theorem touch_heap1 {w w' : World} (ht : Touch Nothing w w') {g : Nat} {o : Obj} (h : w.heap[g]? = some o) : w'.heap[g]? = some o := ht.heap h (fun q => q)

theorem blk_one {w : World} {g : Nat} {t : TypeId} {e : El} (h : w.heap[g]? = some (oneC t e)) : w.heap[g]? = some (.cells [Value.int .u64 e.a0, .int .u64 e.a1, .int .u64 e.a2, .int .u64 e.a3, .int .u64 e.a4].toArray t (0, 0)) := h

/-- An element of the curve: a struct that holds one element. -/
theorem ret_one {fn : Func} {p : Tmp} (h : fn.results = #[.cell p 81]) {tmps : Array Value} {w : World} {b : Nat} {e : El} (hp : tmps.getD p undef = .pointer (some ⟨b, 0, none⟩)) (hb : w.heap[b]? = some (oneC 81 e)) :
    (results fn tmps).run Try.prog w = .ok (elV e) w :=
  ret_cell (P := Try.prog) h hp (blk_one hb) Try.underlying81 rfl (by kernel_rfl)

theorem one_sets {t : TypeId} {w : World} {g : Nat} {z x : El} (h : w.heap[g]? = some (oneC t z)) : (((((w.setCell ⟨g, 0, none⟩ (.int .u64 x.a0)).setCell ⟨g, 1, none⟩ (.int .u64 x.a1)).setCell ⟨g, 2, none⟩ (.int .u64 x.a2)).setCell ⟨g, 3, none⟩ (.int .u64 x.a3)).setCell ⟨g, 4, none⟩ (.int .u64 x.a4)).heap[g]? = some (oneC t x) := by
  obtain ⟨z0, z1, z2, z3, z4⟩ := z
  obtain ⟨t0, t1, t2, t3, t4⟩ := x
  exact (pos_one t).set4 ((pos_one t).set3 ((pos_one t).set2 ((pos_one t).set1 ((pos_one t).set0 h))))

theorem touch5 {w : World} {j : Nat} {i0 i1 i2 i3 i4 : Nat} {v0 v1 v2 v3 v4 : Value} : Touch (fun k => k = j) w (((((w.setCell ⟨j, i0, none⟩ v0).setCell ⟨j, i1, none⟩ v1).setCell ⟨j, i2, none⟩ v2).setCell ⟨j, i3, none⟩ v3).setCell ⟨j, i4, none⟩ v4) :=
  touch_el (touch_el (touch_el (touch_el (touch_el (Touch.refl _ w)))))

theorem range_one {w : World} {g : Nat} {t : TypeId} {e : El} (h : w.heap[g]? = some (oneC t e)) : w.rangeAt g 0 [Value.int .u64 e.a0, .int .u64 e.a1, .int .u64 e.a2, .int .u64 e.a3, .int .u64 e.a4] := range_blk (blk_one h)

theorem info81 : (Try.prog.info? 81).map (·.size) = some 5 := by kernel_rfl

/-- Two of them. -/
theorem ret_ones {fn : Func} {p q : Tmp} (h : fn.results = #[.cell p 81, .cell q 81]) {tmps : Array Value} {w : World} {b c : Nat} {e f : El} (hp : tmps.getD p undef = .pointer (some ⟨b, 0, none⟩)) (hq : tmps.getD q undef = .pointer (some ⟨c, 0, none⟩))
    (hb : w.heap[b]? = some (oneC 81 e)) (hc : w.heap[c]? = some (oneC 81 f)) : (results fn tmps).run Try.prog w = .ok (.tuple #[elV e, elV f]) w := by
  have l1 := run_loadVar_mid (P := Try.prog) w b 0 81 _ _ (range_one hb) Try.underlying81 rfl info81
  have l2 := run_loadVar_mid (P := Try.prog) w c 0 81 _ _ (range_one hc) Try.underlying81 rfl info81
  have hp' : tmps[p]?.getD undef = .pointer (some ⟨b, 0, none⟩) := by simpa using hp
  have hq' : tmps[q]?.getD undef = .pointer (some ⟨c, 0, none⟩) := by simpa using hq
  simp only [results, h]
  simp [hp', hq', asAddr, l1, l2, elV]

set_option maxRecDepth 100000 in
theorem sml_any (w : World) (n : Int) : Calls Try.prog 84 #[.int .u64 n] w fun r w' => r = .returned (elV ⟨n, 0, 0, 0, 0⟩) ∧ Touch Nothing w w' := by
  go_enter Try.func84, Try.ntmps84
  go_wp2
  exact bodyPost_ret (v := elV ⟨n, 0, 0, 0, 0⟩) (ret_one rfl rfl (heap_alloc_new w (oneC 81 ⟨n, 0, 0, 0, 0⟩))) rfl ⟨rfl, (Touch.refl _ _).alloc _⟩

set_option maxRecDepth 100000 in
set_option maxHeartbeats 1600000 in
theorem by_at {ox ob : Nat} {K Kb : El → Obj} (P : Pos ox K) (Pb : Pos ob Kb) (w : World) (g gb : Nat) (a b : El) (h : w.heap[g]? = some (K a)) (hb : w.heap[gb]? = some (Kb b)) (fa : a.Fine) (fb : b.Fine) :
    Calls Try.prog 86 #[.pointer (some ⟨g, ox, none⟩), .pointer (some ⟨gb, ob, none⟩)] w fun r w' => r = .returned (.tuple #[]) ∧ w'.heap[g]? = some (K (timE a b)) ∧ Touch (fun k => k = g) w w' := by
  have hT2 := Lib.hid (Times_at P P Pb w.drew g g gb a a b h h hb fa fb)
  replace h := Lib.hid h
  replace hb := Lib.hid hb
  clear P Pb fa fb
  go_enter Try.func86, Try.ntmps86
  go_upto_region 0 with fail
  go_region_with (go_at_call 51; refine hT2.out.mono ?_; rintro r w2 ⟨rfl, hh, ht⟩)
  all_goals
    go_wp2_with fail
    go_end0
    exact ⟨rfl, hh, (Touch.refl _ w).drew.trans' ht⟩

set_option maxRecDepth 100000 in
set_option maxHeartbeats 1600000 in
theorem square_at {ox : Nat} {K : El → Obj} (P : Pos ox K) (w : World) (g : Nat) (a : El) (h : w.heap[g]? = some (K a)) (fa : a.Fine) :
    Calls Try.prog 92 #[.pointer (some ⟨g, ox, none⟩)] w fun r w' => r = .returned (.tuple #[]) ∧ w'.heap[g]? = some (K (timE a a)) ∧ Touch (fun k => k = g) w w' := by
  have hT2 := Lib.hid (by_at P P w g g a a h h fa fa)
  replace h := Lib.hid h
  clear P fa
  go_enter Try.func92, Try.ntmps92
  go_wp2_with (go_at_call 86; refine hT2.out.mono ?_; rintro r w2 ⟨rfl, hh, ht⟩)
  go_end0
  exact ⟨rfl, hh, ht⟩

set_option maxRecDepth 100000 in
set_option maxHeartbeats 3200000 in
theorem sums_any (w : World) (g : Nat) (x z : El) (h : w.heap[g]? = some (ptC x z)) (fx : x.Fine) (fz : z.Fine) :
    Calls Try.prog 91 #[.pointer (some ⟨g, 0, none⟩)] w fun r w' => r = .returned (.tuple #[elV (plusE x z), elV (minE x z)]) ∧ Touch Nothing w w' := by
  have hg := lt_of_heap h
  have hP0 : ((w.alloc (oneC 81 zE)).alloc (oneC 81 zE)).heap[g]? = some (ptC x z) := touch_heap1 (((Touch.refl Nothing w).alloc _).alloc _) h
  have hS0 : ((w.alloc (oneC 81 zE)).alloc (oneC 81 zE)).heap[w.heap.size]? = some (oneC 81 zE) := touch_heap1 ((Touch.refl Nothing _).alloc _) (heap_alloc_new w _)
  have hD0 : ((w.alloc (oneC 81 zE)).alloc (oneC 81 zE)).heap[w.heap.size + 1]? = some (oneC 81 zE) := by
    have := heap_alloc_new (w.alloc (oneC 81 zE)) (oneC 81 zE)
    simpa using this
  have c1 := Lib.hid (Plus_at (pos_one 81) (pos_x z) (pos_z x) ((w.alloc (oneC 81 zE)).alloc (oneC 81 zE)).drew _ _ _ zE x z hS0 hP0 hP0 fx fz)
  have ht0 : Touch Nothing w ((w.alloc (oneC 81 zE)).alloc (oneC 81 zE)) := ((Touch.refl Nothing w).alloc _).alloc _
  replace hP0 := Lib.hid hP0
  replace hD0 := Lib.hid hD0
  replace hS0 := Lib.hid hS0
  replace h := Lib.hid h
  replace fx := Lib.hid fx
  replace fz := Lib.hid fz
  replace ht0 := Lib.hid ht0
  go_enter Try.func91, Try.ntmps91
  go_upto_region 1 with fail
  go_region_with (go_at_call 52; refine c1.out.mono ?_; rintro r w2 ⟨rfl, h2, t2⟩)
  have hP2 := t2.heap (show ((w.alloc (oneC 81 zE)).alloc (oneC 81 zE)).drew.heap[g]? = some (ptC x z) from hP0.out) (show ¬ g = w.heap.size by omega)
  have hD2 := t2.heap (show ((w.alloc (oneC 81 zE)).alloc (oneC 81 zE)).drew.heap[w.heap.size + 1]? = some (oneC 81 zE) from hD0.out) (show ¬ w.heap.size + 1 = w.heap.size by omega)
  have c2 := Lib.hid (Minus_at (pos_one 81) (pos_x z) (pos_z x) w2.drew _ _ _ zE x z hD2 hP2 hP2 fx.out fz.out)
  replace hP2 := Lib.hid hP2
  replace hD2 := Lib.hid hD2
  go_upto_region 2 with fail
  go_region_with (go_at_call 66; refine c2.out.mono ?_; rintro r w3 ⟨rfl, h3, t3⟩)
  have hS3 := t3.heap (show w2.drew.heap[w.heap.size]? = some (oneC 81 (plusE x z)) from h2) (show ¬ w.heap.size = w.heap.size + 1 by omega)
  have ht3 : Touch Nothing w w3 := (ht0.out.drew.trans t2 fun i hi q => by omega).drew.trans t3 fun i hi q => by omega
  clear h2 t2 t3
  obtain ⟨s, es⟩ : ∃ s, s = plusE x z := ⟨_, rfl⟩
  obtain ⟨d, ed⟩ : ∃ d, d = minE x z := ⟨_, rfl⟩
  rw [← es] at hS3
  rw [← ed] at h3
  have es2 : elV (plusE x z) = elV s := by rw [es]
  have ed2 : elV (minE x z) = elV d := by rw [ed]
  obtain ⟨c0, c1, c2, c3, c4⟩ := (pos_one 81).cells hS3
  obtain ⟨d0, d1, d2, d3, d4⟩ := (pos_one 81).cells h3
  have f := (pos_one 81).frz hS3
  have k := (pos_one 81).frz h3
  have f0 := f 0
  have f1 := f 1
  have f2 := f 2
  have f3 := f 3
  have f4 := f 4
  have k0 := k 0
  have k1 := k 1
  have k2 := k 2
  have k3 := k 3
  have k4 := k 4
  replace hS3 := Lib.hid hS3
  replace h3 := Lib.hid h3
  replace es := Lib.hid es
  replace ed := Lib.hid ed
  replace es2 := Lib.hid es2
  replace ed2 := Lib.hid ed2
  clear f k
  go_wp2
  have s1 := one_sets (x := s) hS3.out
  have u1 := touch5 (w := w3) (j := w.heap.size) (i0 := 0) (i1 := 1) (i2 := 2) (i3 := 3) (i4 := 4) (v0 := .int .u64 s.a0) (v1 := .int .u64 s.a1) (v2 := .int .u64 s.a2) (v3 := .int .u64 s.a3) (v4 := .int .u64 s.a4)
  have s2 := one_sets (x := d) (u1.heap h3.out (show ¬ w.heap.size + 1 = w.heap.size by omega))
  have u2 := touch5 (w := ((((w3.setCell ⟨w.heap.size, 0, none⟩ (.int .u64 s.a0)).setCell ⟨w.heap.size, 1, none⟩ (.int .u64 s.a1)).setCell ⟨w.heap.size, 2, none⟩ (.int .u64 s.a2)).setCell ⟨w.heap.size, 3, none⟩ (.int .u64 s.a3)).setCell ⟨w.heap.size, 4, none⟩ (.int .u64 s.a4)) (j := w.heap.size + 1) (i0 := 0) (i1 := 1) (i2 := 2) (i3 := 3) (i4 := 4) (v0 := .int .u64 d.a0) (v1 := .int .u64 d.a1) (v2 := .int .u64 d.a2) (v3 := .int .u64 d.a3) (v4 := .int .u64 d.a4)
  have s3 := u2.heap s1 (show ¬ w.heap.size = w.heap.size + 1 by omega)
  exact bodyPost_ret (v := .tuple #[elV s, elV d]) (ret_ones rfl rfl rfl s3 s2) rfl ⟨by rw [es2.out, ed2.out], (ht3.trans u1 fun i hi q => by omega).trans u2 fun i hi q => by omega⟩

end Go.Proofs.Ytfnmnmjpcamkiaa
