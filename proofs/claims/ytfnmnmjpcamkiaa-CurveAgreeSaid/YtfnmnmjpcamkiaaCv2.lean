/-
  Layer 2: step, walked. Printed by mkstep.py.
-/
import Derived.Test.YtfnmnmjpcamkiaaCv1
namespace Go.Proofs.Ytfnmnmjpcamkiaa
open Go.RowKit
set_option linter.unusedVariables false
set_option linter.unusedSimpArgs false

/-- The ladder's step: what it makes of two points and their difference. -/
structure Pt where
  x : El
  z : El

def stepP (p : Pt) : Pt :=
  let s := plusE p.x p.z
  let d := minE p.x p.z
  let ss := timE s s
  let dd := timE d d
  let e := minE ss dd
  ⟨timE ss dd, timE e (plusE (timE ⟨121665, 0, 0, 0, 0⟩ e) ss)⟩

def stepQ (u : El) (p q : Pt) : Pt :=
  let da := timE (minE q.x q.z) (plusE p.x p.z)
  let cb := timE (plusE q.x q.z) (minE p.x p.z)
  ⟨timE (plusE da cb) (plusE da cb), timE (timE (minE da cb) (minE da cb)) u⟩

theorem sums_to (w : World) (g : Nat) (x z s d : El) (h : w.heap[g]? = some (ptC x z)) (fx : x.Fine) (fz : z.Fine) (hs : s = plusE x z) (hd : d = minE x z) :
    Calls Try.prog 91 #[.pointer (some ⟨g, 0, none⟩)] w fun r w' => r = .returned (.tuple #[.agg #[.int .u64 s.a0, .int .u64 s.a1, .int .u64 s.a2, .int .u64 s.a3, .int .u64 s.a4], .agg #[.int .u64 d.a0, .int .u64 d.a1, .int .u64 d.a2, .int .u64 d.a3, .int .u64 d.a4]]) ∧ Touch Nothing w w' := by
  subst hs hd
  exact sums_any w g x z h fx fz

theorem sml_to (w : World) (n : Int) : Calls Try.prog 84 #[.int .u64 n] w fun r w' => r = .returned (.agg #[.int .u64 n, .int .u64 0, .int .u64 0, .int .u64 0, .int .u64 0]) ∧ Touch Nothing w w' := sml_any w n

theorem px_sets {w : World} {g : Nat} {x z y : El} (h : w.heap[g]? = some (ptC x z)) : (((((w.setCell ⟨g, 0, none⟩ (.int .u64 y.a0)).setCell ⟨g, 1, none⟩ (.int .u64 y.a1)).setCell ⟨g, 2, none⟩ (.int .u64 y.a2)).setCell ⟨g, 3, none⟩ (.int .u64 y.a3)).setCell ⟨g, 4, none⟩ (.int .u64 y.a4)).heap[g]? = some (ptC y z) := by
  obtain ⟨z0, z1, z2, z3, z4⟩ := x
  obtain ⟨t0, t1, t2, t3, t4⟩ := y
  exact (pos_x z).set4 ((pos_x z).set3 ((pos_x z).set2 ((pos_x z).set1 ((pos_x z).set0 h))))

theorem pz_sets {w : World} {g : Nat} {x z y : El} (h : w.heap[g]? = some (ptC x z)) : (((((w.setCell ⟨g, 5, none⟩ (.int .u64 y.a0)).setCell ⟨g, 6, none⟩ (.int .u64 y.a1)).setCell ⟨g, 7, none⟩ (.int .u64 y.a2)).setCell ⟨g, 8, none⟩ (.int .u64 y.a3)).setCell ⟨g, 9, none⟩ (.int .u64 y.a4)).heap[g]? = some (ptC x y) := by
  obtain ⟨z0, z1, z2, z3, z4⟩ := z
  obtain ⟨t0, t1, t2, t3, t4⟩ := y
  exact (pos_z x).set4 ((pos_z x).set3 ((pos_z x).set2 ((pos_z x).set1 ((pos_z x).set0 h))))

theorem pt_cells {w : World} {g : Nat} {x z : El} (h : w.heap[g]? = some (ptC x z)) : (w.cell? ⟨g, 0, none⟩ = some (.int .u64 x.a0) ∧ w.cell? ⟨g, 1, none⟩ = some (.int .u64 x.a1) ∧ w.cell? ⟨g, 2, none⟩ = some (.int .u64 x.a2) ∧ w.cell? ⟨g, 3, none⟩ = some (.int .u64 x.a3) ∧ w.cell? ⟨g, 4, none⟩ = some (.int .u64 x.a4)) ∧
    (w.cell? ⟨g, 5, none⟩ = some (.int .u64 z.a0) ∧ w.cell? ⟨g, 6, none⟩ = some (.int .u64 z.a1) ∧ w.cell? ⟨g, 7, none⟩ = some (.int .u64 z.a2) ∧ w.cell? ⟨g, 8, none⟩ = some (.int .u64 z.a3) ∧ w.cell? ⟨g, 9, none⟩ = some (.int .u64 z.a4)) :=
  ⟨⟨cell_blk h 0, cell_blk h 1, cell_blk h 2, cell_blk h 3, cell_blk h 4⟩, ⟨cell_blk h 5, cell_blk h 6, cell_blk h 7, cell_blk h 8, cell_blk h 9⟩⟩
theorem pt_frz {w : World} {g : Nat} {x z : El} (h : w.heap[g]? = some (ptC x z)) (i : Nat) : w.frozen? ⟨g, i, none⟩ = false := frz_blk h i
theorem one_cells {t : TypeId} {w : World} {g : Nat} {x : El} (h : w.heap[g]? = some (oneC t x)) : w.cell? ⟨g, 0, none⟩ = some (.int .u64 x.a0) ∧ w.cell? ⟨g, 1, none⟩ = some (.int .u64 x.a1) ∧ w.cell? ⟨g, 2, none⟩ = some (.int .u64 x.a2) ∧ w.cell? ⟨g, 3, none⟩ = some (.int .u64 x.a3) ∧ w.cell? ⟨g, 4, none⟩ = some (.int .u64 x.a4) :=
  ⟨cell_blk h 0, cell_blk h 1, cell_blk h 2, cell_blk h 3, cell_blk h 4⟩
theorem one_frz {t : TypeId} {w : World} {g : Nat} {x : El} (h : w.heap[g]? = some (oneC t x)) (i : Nat) : w.frozen? ⟨g, i, none⟩ = false := frz_blk h i

/-- Two blocks may have turned, and new ones. -/
def PQ (gp gq n : Nat) : Nat → Prop := fun k => k = gp ∨ k = gq ∨ n ≤ k

theorem num_fine (n : Int) (h0 : 0 ≤ n) (h1 : n < 2251799813685248) : El.Fine ⟨n, 0, 0, 0, 0⟩ := by unfold El.Fine El.below; simp only []; omega

set_option maxRecDepth 100000 in
set_option maxHeartbeats 12800000 in
theorem step_any (w : World) (gu gp gq : Nat) (u x2 z2 x3 z3 : El) (hu : w.heap[gu]? = some (oneC 81 u)) (hp : w.heap[gp]? = some (ptC x2 z2)) (hq : w.heap[gq]? = some (ptC x3 z3)) (n1 : gu ≠ gp) (n2 : gu ≠ gq) (n3 : gp ≠ gq)
    (fu : u.Fine) (fx2 : x2.Fine) (fz2 : z2.Fine) (fx3 : x3.Fine) (fz3 : z3.Fine) :
    Calls Try.prog 85 #[.pointer (some ⟨gu, 0, none⟩), .pointer (some ⟨gp, 0, none⟩), .pointer (some ⟨gq, 0, none⟩)] w fun r w' => r = .returned (.tuple #[]) ∧
      w'.heap[gp]? = some (ptC (stepP ⟨x2, z2⟩).x (stepP ⟨x2, z2⟩).z) ∧ w'.heap[gq]? = some (ptC (stepQ u ⟨x2, z2⟩ ⟨x3, z3⟩).x (stepQ u ⟨x2, z2⟩ ⟨x3, z3⟩).z) ∧ Touch (fun k => k = gp ∨ k = gq) w w' := by
  obtain ⟨s, hs⟩ : ∃ t : El, t = plusE x2 z2 := ⟨_, rfl⟩
  have fs : s.Fine := by rw [hs]; exact plusE_fine fx2 fz2
  obtain ⟨d, hd⟩ : ∃ t : El, t = minE x2 z2 := ⟨_, rfl⟩
  have fd : d.Fine := by rw [hd]; exact minE_fine fx2 fz2
  obtain ⟨cb0, hcb0⟩ : ∃ t : El, t = plusE x3 z3 := ⟨_, rfl⟩
  have fcb0 : cb0.Fine := by rw [hcb0]; exact plusE_fine fx3 fz3
  obtain ⟨da0, hda0⟩ : ∃ t : El, t = minE x3 z3 := ⟨_, rfl⟩
  have fda0 : da0.Fine := by rw [hda0]; exact minE_fine fx3 fz3
  obtain ⟨da, hda⟩ : ∃ t : El, t = timE da0 s := ⟨_, rfl⟩
  have fda : da.Fine := by rw [hda]; exact timE_fine fda0 fs
  obtain ⟨cb, hcb⟩ : ∃ t : El, t = timE cb0 d := ⟨_, rfl⟩
  have fcb : cb.Fine := by rw [hcb]; exact timE_fine fcb0 fd
  obtain ⟨ss, hss⟩ : ∃ t : El, t = timE s s := ⟨_, rfl⟩
  have fss : ss.Fine := by rw [hss]; exact timE_fine fs fs
  obtain ⟨dd, hdd⟩ : ∃ t : El, t = timE d d := ⟨_, rfl⟩
  have fdd : dd.Fine := by rw [hdd]; exact timE_fine fd fd
  obtain ⟨e, he⟩ : ∃ t : El, t = minE ss dd := ⟨_, rfl⟩
  have fe : e.Fine := by rw [he]; exact minE_fine fss fdd
  obtain ⟨px, hpx⟩ : ∃ t : El, t = timE ss dd := ⟨_, rfl⟩
  have fpx : px.Fine := by rw [hpx]; exact timE_fine fss fdd
  obtain ⟨f0, hf0⟩ : ∃ t : El, t = ⟨121665, 0, 0, 0, 0⟩ := ⟨_, rfl⟩
  have ff0 : f0.Fine := by rw [hf0]; exact num_fine 121665 (by omega) (by omega)
  obtain ⟨f1, hf1⟩ : ∃ t : El, t = timE f0 e := ⟨_, rfl⟩
  have ff1 : f1.Fine := by rw [hf1]; exact timE_fine ff0 fe
  obtain ⟨f2, hf2⟩ : ∃ t : El, t = plusE f1 ss := ⟨_, rfl⟩
  have ff2 : f2.Fine := by rw [hf2]; exact plusE_fine ff1 fss
  obtain ⟨pz, hpz⟩ : ∃ t : El, t = timE e f2 := ⟨_, rfl⟩
  have fpz : pz.Fine := by rw [hpz]; exact timE_fine fe ff2
  obtain ⟨qx0, hqx0⟩ : ∃ t : El, t = plusE da cb := ⟨_, rfl⟩
  have fqx0 : qx0.Fine := by rw [hqx0]; exact plusE_fine fda fcb
  obtain ⟨qx, hqx⟩ : ∃ t : El, t = timE qx0 qx0 := ⟨_, rfl⟩
  have fqx : qx.Fine := by rw [hqx]; exact timE_fine fqx0 fqx0
  obtain ⟨qz0, hqz0⟩ : ∃ t : El, t = minE da cb := ⟨_, rfl⟩
  have fqz0 : qz0.Fine := by rw [hqz0]; exact minE_fine fda fcb
  obtain ⟨qz1, hqz1⟩ : ∃ t : El, t = timE qz0 qz0 := ⟨_, rfl⟩
  have fqz1 : qz1.Fine := by rw [hqz1]; exact timE_fine fqz0 fqz0
  obtain ⟨qz, hqz⟩ : ∃ t : El, t = timE qz1 u := ⟨_, rfl⟩
  have fqz : qz.Fine := by rw [hqz]; exact timE_fine fqz1 fu
  have r1 : (stepP ⟨x2, z2⟩).x = px := by rw [hpx, hss, hdd, hs, hd]; rfl
  have r2 : (stepP ⟨x2, z2⟩).z = pz := by rw [hpz, hf2, hf1, hf0, he, hss, hdd, hs, hd]; rfl
  have r3 : (stepQ u ⟨x2, z2⟩ ⟨x3, z3⟩).x = qx := by rw [hqx, hqx0, hda, hcb, hda0, hcb0, hs, hd]; rfl
  have r4 : (stepQ u ⟨x2, z2⟩ ⟨x3, z3⟩).z = qz := by rw [hqz, hqz1, hqz0, hda, hcb, hda0, hcb0, hs, hd]; rfl
  rw [r1, r2, r3, r4]
  clear r1 r2 r3 r4
  replace fu := Lib.hid fu
  replace fx2 := Lib.hid fx2
  replace fz2 := Lib.hid fz2
  replace fx3 := Lib.hid fx3
  replace fz3 := Lib.hid fz3
  replace fs := Lib.hid fs
  replace hs := Lib.hid hs
  replace fd := Lib.hid fd
  replace hd := Lib.hid hd
  replace fcb0 := Lib.hid fcb0
  replace hcb0 := Lib.hid hcb0
  replace fda0 := Lib.hid fda0
  replace hda0 := Lib.hid hda0
  replace fda := Lib.hid fda
  replace hda := Lib.hid hda
  replace fcb := Lib.hid fcb
  replace hcb := Lib.hid hcb
  replace fss := Lib.hid fss
  replace hss := Lib.hid hss
  replace fdd := Lib.hid fdd
  replace hdd := Lib.hid hdd
  replace fe := Lib.hid fe
  replace he := Lib.hid he
  replace fpx := Lib.hid fpx
  replace hpx := Lib.hid hpx
  replace ff0 := Lib.hid ff0
  replace hf0 := Lib.hid hf0
  replace ff1 := Lib.hid ff1
  replace hf1 := Lib.hid hf1
  replace ff2 := Lib.hid ff2
  replace hf2 := Lib.hid hf2
  replace fpz := Lib.hid fpz
  replace hpz := Lib.hid hpz
  replace fqx0 := Lib.hid fqx0
  replace hqx0 := Lib.hid hqx0
  replace fqx := Lib.hid fqx
  replace hqx := Lib.hid hqx
  replace fqz0 := Lib.hid fqz0
  replace hqz0 := Lib.hid hqz0
  replace fqz1 := Lib.hid fqz1
  replace hqz1 := Lib.hid hqz1
  replace fqz := Lib.hid fqz
  replace hqz := Lib.hid hqz
  have ku := lt_of_heap hu
  have kp := lt_of_heap hp
  have kq := lt_of_heap hq
  have ht : Touch (PQ gp gq w.heap.size) w w := Touch.refl _ _
  have Bu := Lib.hid hu
  have Bp := Lib.hid hp
  have Bq := Lib.hid hq
  clear hu hp hq
  replace ht := Lib.hid ht
  go_enter Try.func85, Try.ntmps85
  go_upto_region 1 with (go_at_call 91; refine (sums_to _ _ _ _ s d Bp.out fx2.out fz2.out hs.out hd.out).mono ?_; rintro r v1 ⟨rfl, tv1⟩)
  replace Bu := Lib.hid (tv1.heap Bu.out (by exact fun q => q))
  replace Bp := Lib.hid (tv1.heap Bp.out (by exact fun q => q))
  replace Bq := Lib.hid (tv1.heap Bq.out (by exact fun q => q))
  replace ht := Lib.hid (ht.out.none tv1)
  obtain ⟨v2, hv2⟩ : ∃ W, W = (v1.alloc (oneC 81 s)).alloc (oneC 81 d) := ⟨_, rfl⟩
  have tv2 : Touch Nothing v1 v2 := by rw [hv2]; exact ((Touch.refl Nothing _).alloc _).alloc _
  have sv2 := ht.out.size
  obtain ⟨bs, hbs⟩ : ∃ b, b = v1.heap.size := ⟨_, rfl⟩
  obtain ⟨bd, hbd⟩ : ∃ b, b = v1.heap.size + 1 := ⟨_, rfl⟩
  have Bs : v2.heap[bs]? = some (oneC 81 s) := by rw [hv2, hbs]; exact touch_heap1 ((Touch.refl Nothing _).alloc _) (heap_alloc_new _ _)
  have Bd : v2.heap[bd]? = some (oneC 81 d) := by
    rw [hv2, hbd]
    have := heap_alloc_new (v1.alloc (oneC 81 s)) (oneC 81 d)
    simpa using this
  have hlit : (v1.alloc (.cells #[.int .u64 s.a0, .int .u64 s.a1, .int .u64 s.a2, .int .u64 s.a3, .int .u64 s.a4] 81)).alloc (.cells #[.int .u64 d.a0, .int .u64 d.a1, .int .u64 d.a2, .int .u64 d.a3, .int .u64 d.a4] 81) = v2 := hv2.symm
  rw [hlit]
  clear hlit
  rw [← hbs] at hbd
  have is : w.heap.size ≤ bs ∧ bs < bd := ⟨by omega, by omega⟩
  rw [← hbs]
  try rw [← hbd]
  clear hv2 hbs hbd
  replace Bu := Lib.hid (tv2.heap Bu.out (by exact fun q => q))
  replace Bp := Lib.hid (tv2.heap Bp.out (by exact fun q => q))
  replace Bq := Lib.hid (tv2.heap Bq.out (by exact fun q => q))
  replace ht := Lib.hid (ht.out.none tv2)
  replace Bs := Lib.hid Bs
  replace Bd := Lib.hid Bd
  clear tv1 tv2 sv2
  go_upto_region 2 with (go_at_call 91; refine (sums_to _ _ _ _ cb0 da0 Bq.out fx3.out fz3.out hcb0.out hda0.out).mono ?_; rintro r v3 ⟨rfl, tv3⟩)
  replace Bu := Lib.hid (tv3.heap Bu.out (by exact fun q => q))
  replace Bp := Lib.hid (tv3.heap Bp.out (by exact fun q => q))
  replace Bq := Lib.hid (tv3.heap Bq.out (by exact fun q => q))
  replace Bs := Lib.hid (tv3.heap Bs.out (by exact fun q => q))
  replace Bd := Lib.hid (tv3.heap Bd.out (by exact fun q => q))
  replace ht := Lib.hid (ht.out.none tv3)
  obtain ⟨v4, hv4⟩ : ∃ W, W = (v3.alloc (oneC 81 cb0)).alloc (oneC 81 da0) := ⟨_, rfl⟩
  have tv4 : Touch Nothing v3 v4 := by rw [hv4]; exact ((Touch.refl Nothing _).alloc _).alloc _
  have sv4 := ht.out.size
  obtain ⟨bcb, hbcb⟩ : ∃ b, b = v3.heap.size := ⟨_, rfl⟩
  obtain ⟨bda, hbda⟩ : ∃ b, b = v3.heap.size + 1 := ⟨_, rfl⟩
  have Bcb : v4.heap[bcb]? = some (oneC 81 cb0) := by rw [hv4, hbcb]; exact touch_heap1 ((Touch.refl Nothing _).alloc _) (heap_alloc_new _ _)
  have Bda : v4.heap[bda]? = some (oneC 81 da0) := by
    rw [hv4, hbda]
    have := heap_alloc_new (v3.alloc (oneC 81 cb0)) (oneC 81 da0)
    simpa using this
  have hlit : (v3.alloc (.cells #[.int .u64 cb0.a0, .int .u64 cb0.a1, .int .u64 cb0.a2, .int .u64 cb0.a3, .int .u64 cb0.a4] 81)).alloc (.cells #[.int .u64 da0.a0, .int .u64 da0.a1, .int .u64 da0.a2, .int .u64 da0.a3, .int .u64 da0.a4] 81) = v4 := hv4.symm
  rw [hlit]
  clear hlit
  rw [← hbcb] at hbda
  have icb : w.heap.size ≤ bcb ∧ bcb < bda := ⟨by omega, by omega⟩
  rw [← hbcb]
  try rw [← hbda]
  have jcb : bd < bcb := by have := lt_of_heap (touch_heap1 (Touch.refl Nothing _) Bd.out); omega
  clear hv4 hbcb hbda
  replace Bu := Lib.hid (tv4.heap Bu.out (by exact fun q => q))
  replace Bp := Lib.hid (tv4.heap Bp.out (by exact fun q => q))
  replace Bq := Lib.hid (tv4.heap Bq.out (by exact fun q => q))
  replace Bs := Lib.hid (tv4.heap Bs.out (by exact fun q => q))
  replace Bd := Lib.hid (tv4.heap Bd.out (by exact fun q => q))
  replace ht := Lib.hid (ht.out.none tv4)
  replace Bcb := Lib.hid Bcb
  replace Bda := Lib.hid Bda
  clear tv3 tv4 sv4
  go_upto_region 3 with (go_at_call 86; refine (by_at (pos_one 81) (pos_one 81) _ _ _ da0 s Bda.out Bs.out fda0.out fs.out).mono ?_; rintro r v5 ⟨rfl, hh, tv5⟩)
  replace Bu := Lib.hid (tv5.heap Bu.out (show ¬ gu = bda by omega))
  replace Bp := Lib.hid (tv5.heap Bp.out (show ¬ gp = bda by omega))
  replace Bq := Lib.hid (tv5.heap Bq.out (show ¬ gq = bda by omega))
  replace Bs := Lib.hid (tv5.heap Bs.out (show ¬ bs = bda by omega))
  replace Bd := Lib.hid (tv5.heap Bd.out (show ¬ bd = bda by omega))
  replace Bcb := Lib.hid (tv5.heap Bcb.out (show ¬ bcb = bda by omega))
  replace Bda := Lib.hid (show v5.heap[bda]? = some (oneC 81 da) by rw [hda.out]; exact hh)
  replace ht := Lib.hid (ht.out.trans tv5 fun i hi q => by unfold PQ; omega)
  clear hh tv5
  go_upto_region 4 with (go_at_call 86; refine (by_at (pos_one 81) (pos_one 81) _ _ _ cb0 d Bcb.out Bd.out fcb0.out fd.out).mono ?_; rintro r v6 ⟨rfl, hh, tv6⟩)
  replace Bu := Lib.hid (tv6.heap Bu.out (show ¬ gu = bcb by omega))
  replace Bp := Lib.hid (tv6.heap Bp.out (show ¬ gp = bcb by omega))
  replace Bq := Lib.hid (tv6.heap Bq.out (show ¬ gq = bcb by omega))
  replace Bs := Lib.hid (tv6.heap Bs.out (show ¬ bs = bcb by omega))
  replace Bd := Lib.hid (tv6.heap Bd.out (show ¬ bd = bcb by omega))
  replace Bda := Lib.hid (tv6.heap Bda.out (show ¬ bda = bcb by omega))
  replace Bcb := Lib.hid (show v6.heap[bcb]? = some (oneC 81 cb) by rw [hcb.out]; exact hh)
  replace ht := Lib.hid (ht.out.trans tv6 fun i hi q => by unfold PQ; omega)
  clear hh tv6
  go_upto_region 5 with (go_at_call 92; refine (square_at (pos_one 81) _ _ s Bs.out fs.out).mono ?_; rintro r v7 ⟨rfl, hh, tv7⟩)
  replace Bu := Lib.hid (tv7.heap Bu.out (show ¬ gu = bs by omega))
  replace Bp := Lib.hid (tv7.heap Bp.out (show ¬ gp = bs by omega))
  replace Bq := Lib.hid (tv7.heap Bq.out (show ¬ gq = bs by omega))
  replace Bd := Lib.hid (tv7.heap Bd.out (show ¬ bd = bs by omega))
  replace Bcb := Lib.hid (tv7.heap Bcb.out (show ¬ bcb = bs by omega))
  replace Bda := Lib.hid (tv7.heap Bda.out (show ¬ bda = bs by omega))
  replace Bs := Lib.hid (show v7.heap[bs]? = some (oneC 81 ss) by rw [hss.out]; exact hh)
  replace ht := Lib.hid (ht.out.trans tv7 fun i hi q => by unfold PQ; omega)
  clear hh tv7
  go_upto_region 6 with (go_at_call 92; refine (square_at (pos_one 81) _ _ d Bd.out fd.out).mono ?_; rintro r v8 ⟨rfl, hh, tv8⟩)
  replace Bu := Lib.hid (tv8.heap Bu.out (show ¬ gu = bd by omega))
  replace Bp := Lib.hid (tv8.heap Bp.out (show ¬ gp = bd by omega))
  replace Bq := Lib.hid (tv8.heap Bq.out (show ¬ gq = bd by omega))
  replace Bs := Lib.hid (tv8.heap Bs.out (show ¬ bs = bd by omega))
  replace Bcb := Lib.hid (tv8.heap Bcb.out (show ¬ bcb = bd by omega))
  replace Bda := Lib.hid (tv8.heap Bda.out (show ¬ bda = bd by omega))
  replace Bd := Lib.hid (show v8.heap[bd]? = some (oneC 81 dd) by rw [hdd.out]; exact hh)
  replace ht := Lib.hid (ht.out.trans tv8 fun i hi q => by unfold PQ; omega)
  clear hh tv8
  go_upto_region 7 with fail
  obtain ⟨v9, hv9⟩ : ∃ W, W = (v8.alloc (oneC 81 zE)).alloc (oneC 81 zE) := ⟨_, rfl⟩
  have tv9 : Touch Nothing v8 v9 := by rw [hv9]; exact ((Touch.refl Nothing _).alloc _).alloc _
  have sv9 := ht.out.size
  have jj := lt_of_heap Bda.out
  obtain ⟨be, hbe⟩ : ∃ b, b = v8.heap.size := ⟨_, rfl⟩
  obtain ⟨bf, hbf⟩ : ∃ b, b = v8.heap.size + 1 := ⟨_, rfl⟩
  have Be : v9.heap[be]? = some (oneC 81 zE) := by rw [hv9, hbe]; exact touch_heap1 ((Touch.refl Nothing _).alloc _) (heap_alloc_new _ _)
  have Bf : v9.heap[bf]? = some (oneC 81 zE) := by
    rw [hv9, hbf]
    have := heap_alloc_new (v8.alloc (oneC 81 zE)) (oneC 81 zE)
    simpa using this
  have hlit : (v8.alloc (.cells #[.int .u64 0, .int .u64 0, .int .u64 0, .int .u64 0, .int .u64 0] 81)).alloc (.cells #[.int .u64 0, .int .u64 0, .int .u64 0, .int .u64 0, .int .u64 0] 81) = v9 := hv9.symm
  rw [hlit]
  clear hlit
  rw [← hbe] at hbf jj
  have ibe : w.heap.size ≤ be ∧ be < bf ∧ bda < be := ⟨by omega, by omega, by omega⟩
  rw [← hbe]
  try rw [← hbf]
  clear hv9 hbe hbf jj
  replace Bu := Lib.hid (tv9.heap Bu.out (by exact fun q => q))
  replace Bp := Lib.hid (tv9.heap Bp.out (by exact fun q => q))
  replace Bq := Lib.hid (tv9.heap Bq.out (by exact fun q => q))
  replace Bs := Lib.hid (tv9.heap Bs.out (by exact fun q => q))
  replace Bd := Lib.hid (tv9.heap Bd.out (by exact fun q => q))
  replace Bcb := Lib.hid (tv9.heap Bcb.out (by exact fun q => q))
  replace Bda := Lib.hid (tv9.heap Bda.out (by exact fun q => q))
  replace ht := Lib.hid (ht.out.none tv9)
  replace Be := Lib.hid Be
  replace Bf := Lib.hid Bf
  clear tv9 sv9
  go_upto_region 8 with (go_at_call 66; refine (Minus_at (pos_one 81) (pos_one 81) (pos_one 81) _ _ _ _ zE ss dd Be.out Bs.out Bd.out fss.out fdd.out).mono ?_; rintro r v10 ⟨rfl, hh, tv10⟩)
  replace Bu := Lib.hid (tv10.heap Bu.out (show ¬ gu = be by omega))
  replace Bp := Lib.hid (tv10.heap Bp.out (show ¬ gp = be by omega))
  replace Bq := Lib.hid (tv10.heap Bq.out (show ¬ gq = be by omega))
  replace Bs := Lib.hid (tv10.heap Bs.out (show ¬ bs = be by omega))
  replace Bd := Lib.hid (tv10.heap Bd.out (show ¬ bd = be by omega))
  replace Bcb := Lib.hid (tv10.heap Bcb.out (show ¬ bcb = be by omega))
  replace Bda := Lib.hid (tv10.heap Bda.out (show ¬ bda = be by omega))
  replace Bf := Lib.hid (tv10.heap Bf.out (show ¬ bf = be by omega))
  replace Be := Lib.hid (show v10.heap[be]? = some (oneC 81 e) by rw [he.out]; exact hh)
  replace ht := Lib.hid (ht.out.trans tv10 fun i hi q => by unfold PQ; omega)
  clear hh tv10
  obtain ⟨c0, c1, c2, c3, c4⟩ := one_cells Bs.out
  obtain ⟨⟨d0, d1, d2, d3, d4⟩, ⟨e0, e1, e2, e3, e4⟩⟩ := pt_cells Bp.out
  have g0 := pt_frz Bp.out 0
  have g1 := pt_frz Bp.out 1
  have g2 := pt_frz Bp.out 2
  have g3 := pt_frz Bp.out 3
  have g4 := pt_frz Bp.out 4
  go_upto_region 9 with fail
  have hh := px_sets (y := ss) Bp.out
  have tv11 := touch5 (w := v10) (j := gp) (i0 := 0) (i1 := 1) (i2 := 2) (i3 := 3) (i4 := 4) (v0 := .int .u64 ss.a0) (v1 := .int .u64 ss.a1) (v2 := .int .u64 ss.a2) (v3 := .int .u64 ss.a3) (v4 := .int .u64 ss.a4)
  obtain ⟨v11, hv11⟩ : ∃ W, W = (((((v10.setCell ⟨gp, 0, none⟩ (.int .u64 ss.a0)).setCell ⟨gp, 1, none⟩ (.int .u64 ss.a1)).setCell ⟨gp, 2, none⟩ (.int .u64 ss.a2)).setCell ⟨gp, 3, none⟩ (.int .u64 ss.a3)).setCell ⟨gp, 4, none⟩ (.int .u64 ss.a4)) := ⟨_, rfl⟩
  rw [← hv11] at hh tv11 ⊢
  clear hv11 c0 c1 c2 c3 c4 d0 d1 d2 d3 d4 e0 e1 e2 e3 e4 g0 g1 g2 g3 g4
  replace Bu := Lib.hid (tv11.heap Bu.out (show ¬ gu = gp by omega))
  replace Bq := Lib.hid (tv11.heap Bq.out (show ¬ gq = gp by omega))
  replace Bs := Lib.hid (tv11.heap Bs.out (show ¬ bs = gp by omega))
  replace Bd := Lib.hid (tv11.heap Bd.out (show ¬ bd = gp by omega))
  replace Bcb := Lib.hid (tv11.heap Bcb.out (show ¬ bcb = gp by omega))
  replace Bda := Lib.hid (tv11.heap Bda.out (show ¬ bda = gp by omega))
  replace Be := Lib.hid (tv11.heap Be.out (show ¬ be = gp by omega))
  replace Bf := Lib.hid (tv11.heap Bf.out (show ¬ bf = gp by omega))
  replace Bp := Lib.hid hh
  replace ht := Lib.hid (ht.out.trans tv11 fun i hi q => by unfold PQ; omega)
  clear hh tv11
  go_upto_region 10 with (go_at_call 86; refine (by_at (pos_x z2) (pos_one 81) _ _ _ ss dd Bp.out Bd.out fss.out fdd.out).mono ?_; rintro r v12 ⟨rfl, hh, tv12⟩)
  replace Bu := Lib.hid (tv12.heap Bu.out (show ¬ gu = gp by omega))
  replace Bq := Lib.hid (tv12.heap Bq.out (show ¬ gq = gp by omega))
  replace Bs := Lib.hid (tv12.heap Bs.out (show ¬ bs = gp by omega))
  replace Bd := Lib.hid (tv12.heap Bd.out (show ¬ bd = gp by omega))
  replace Bcb := Lib.hid (tv12.heap Bcb.out (show ¬ bcb = gp by omega))
  replace Bda := Lib.hid (tv12.heap Bda.out (show ¬ bda = gp by omega))
  replace Be := Lib.hid (tv12.heap Be.out (show ¬ be = gp by omega))
  replace Bf := Lib.hid (tv12.heap Bf.out (show ¬ bf = gp by omega))
  replace Bp := Lib.hid (show v12.heap[gp]? = some (ptC px z2) by rw [hpx.out]; exact hh)
  replace ht := Lib.hid (ht.out.trans tv12 fun i hi q => by unfold PQ; omega)
  clear hh tv12
  have e0 : f0.a0 = 121665 ∧ f0.a1 = 0 ∧ f0.a2 = 0 ∧ f0.a3 = 0 ∧ f0.a4 = 0 := by rw [hf0.out]; exact ⟨rfl, rfl, rfl, rfl, rfl⟩
  have hsm := fun w => sml_to w 121665
  rw [← e0.1] at hsm
  replace hsm := Lib.hid hsm
  replace e0 := Lib.hid e0
  go_upto_region 11 with (go_at_call 84; refine (sml_to _ 121665).mono ?_; rintro r v13 ⟨rfl, tv13⟩; have Bf2 := tv13.heap Bf.out (by exact fun q => q); obtain ⟨c0, c1, c2, c3, c4⟩ := one_cells Bf2; have g0 := one_frz Bf2 0; have g1 := one_frz Bf2 1; have g2 := one_frz Bf2 2; have g3 := one_frz Bf2 3; have g4 := one_frz Bf2 4; replace Bf2 := Lib.hid Bf2)
  replace Bu := Lib.hid (tv13.heap Bu.out (by exact fun q => q))
  replace Bp := Lib.hid (tv13.heap Bp.out (by exact fun q => q))
  replace Bq := Lib.hid (tv13.heap Bq.out (by exact fun q => q))
  replace Bs := Lib.hid (tv13.heap Bs.out (by exact fun q => q))
  replace Bd := Lib.hid (tv13.heap Bd.out (by exact fun q => q))
  replace Bcb := Lib.hid (tv13.heap Bcb.out (by exact fun q => q))
  replace Bda := Lib.hid (tv13.heap Bda.out (by exact fun q => q))
  replace Be := Lib.hid (tv13.heap Be.out (by exact fun q => q))
  replace Bf := Bf2
  clear Bf2
  replace ht := Lib.hid (ht.out.none tv13)
  have hh := one_sets (x := ⟨121665, 0, 0, 0, 0⟩) Bf.out
  have tv14 := touch5 (w := v13) (j := bf) (i0 := 0) (i1 := 1) (i2 := 2) (i3 := 3) (i4 := 4) (v0 := .int .u64 121665) (v1 := .int .u64 0) (v2 := .int .u64 0) (v3 := .int .u64 0) (v4 := .int .u64 0)
  obtain ⟨v14, hv14⟩ : ∃ W, W = (((((v13.setCell ⟨bf, 0, none⟩ (.int .u64 121665)).setCell ⟨bf, 1, none⟩ (.int .u64 0)).setCell ⟨bf, 2, none⟩ (.int .u64 0)).setCell ⟨bf, 3, none⟩ (.int .u64 0)).setCell ⟨bf, 4, none⟩ (.int .u64 0)) := ⟨_, rfl⟩
  simp only [] at hh
  rw [← hv14] at hh tv14 ⊢
  rw [← hf0.out] at hh
  clear hv14 tv13 c0 c1 c2 c3 c4 g0 g1 g2 g3 g4 hsm e0
  replace Bu := Lib.hid (tv14.heap Bu.out (show ¬ gu = bf by omega))
  replace Bp := Lib.hid (tv14.heap Bp.out (show ¬ gp = bf by omega))
  replace Bq := Lib.hid (tv14.heap Bq.out (show ¬ gq = bf by omega))
  replace Bs := Lib.hid (tv14.heap Bs.out (show ¬ bs = bf by omega))
  replace Bd := Lib.hid (tv14.heap Bd.out (show ¬ bd = bf by omega))
  replace Bcb := Lib.hid (tv14.heap Bcb.out (show ¬ bcb = bf by omega))
  replace Bda := Lib.hid (tv14.heap Bda.out (show ¬ bda = bf by omega))
  replace Be := Lib.hid (tv14.heap Be.out (show ¬ be = bf by omega))
  replace Bf := Lib.hid hh
  replace ht := Lib.hid (ht.out.trans tv14 fun i hi q => by unfold PQ; omega)
  clear hh tv14
  go_upto_region 12 with (go_at_call 86; refine (by_at (pos_one 81) (pos_one 81) _ _ _ f0 e Bf.out Be.out ff0.out fe.out).mono ?_; rintro r v15 ⟨rfl, hh, tv15⟩)
  replace Bu := Lib.hid (tv15.heap Bu.out (show ¬ gu = bf by omega))
  replace Bp := Lib.hid (tv15.heap Bp.out (show ¬ gp = bf by omega))
  replace Bq := Lib.hid (tv15.heap Bq.out (show ¬ gq = bf by omega))
  replace Bs := Lib.hid (tv15.heap Bs.out (show ¬ bs = bf by omega))
  replace Bd := Lib.hid (tv15.heap Bd.out (show ¬ bd = bf by omega))
  replace Bcb := Lib.hid (tv15.heap Bcb.out (show ¬ bcb = bf by omega))
  replace Bda := Lib.hid (tv15.heap Bda.out (show ¬ bda = bf by omega))
  replace Be := Lib.hid (tv15.heap Be.out (show ¬ be = bf by omega))
  replace Bf := Lib.hid (show v15.heap[bf]? = some (oneC 81 f1) by rw [hf1.out]; exact hh)
  replace ht := Lib.hid (ht.out.trans tv15 fun i hi q => by unfold PQ; omega)
  clear hh tv15
  go_upto_region 13 with (go_at_call 52; refine (Plus_at (pos_one 81) (pos_one 81) (pos_one 81) _ _ _ _ f1 f1 ss Bf.out Bf.out Bs.out ff1.out fss.out).mono ?_; rintro r v16 ⟨rfl, hh, tv16⟩)
  replace Bu := Lib.hid (tv16.heap Bu.out (show ¬ gu = bf by omega))
  replace Bp := Lib.hid (tv16.heap Bp.out (show ¬ gp = bf by omega))
  replace Bq := Lib.hid (tv16.heap Bq.out (show ¬ gq = bf by omega))
  replace Bs := Lib.hid (tv16.heap Bs.out (show ¬ bs = bf by omega))
  replace Bd := Lib.hid (tv16.heap Bd.out (show ¬ bd = bf by omega))
  replace Bcb := Lib.hid (tv16.heap Bcb.out (show ¬ bcb = bf by omega))
  replace Bda := Lib.hid (tv16.heap Bda.out (show ¬ bda = bf by omega))
  replace Be := Lib.hid (tv16.heap Be.out (show ¬ be = bf by omega))
  replace Bf := Lib.hid (show v16.heap[bf]? = some (oneC 81 f2) by rw [hf2.out]; exact hh)
  replace ht := Lib.hid (ht.out.trans tv16 fun i hi q => by unfold PQ; omega)
  clear hh tv16
  obtain ⟨c0, c1, c2, c3, c4⟩ := one_cells Be.out
  obtain ⟨⟨d0, d1, d2, d3, d4⟩, ⟨e0, e1, e2, e3, e4⟩⟩ := pt_cells Bp.out
  have g0 := pt_frz Bp.out 5
  have g1 := pt_frz Bp.out 6
  have g2 := pt_frz Bp.out 7
  have g3 := pt_frz Bp.out 8
  have g4 := pt_frz Bp.out 9
  go_upto_region 14 with fail
  have hh := pz_sets (y := e) Bp.out
  have tv17 := touch5 (w := v16) (j := gp) (i0 := 5) (i1 := 6) (i2 := 7) (i3 := 8) (i4 := 9) (v0 := .int .u64 e.a0) (v1 := .int .u64 e.a1) (v2 := .int .u64 e.a2) (v3 := .int .u64 e.a3) (v4 := .int .u64 e.a4)
  obtain ⟨v17, hv17⟩ : ∃ W, W = (((((v16.setCell ⟨gp, 5, none⟩ (.int .u64 e.a0)).setCell ⟨gp, 6, none⟩ (.int .u64 e.a1)).setCell ⟨gp, 7, none⟩ (.int .u64 e.a2)).setCell ⟨gp, 8, none⟩ (.int .u64 e.a3)).setCell ⟨gp, 9, none⟩ (.int .u64 e.a4)) := ⟨_, rfl⟩
  rw [← hv17] at hh tv17 ⊢
  clear hv17 c0 c1 c2 c3 c4 d0 d1 d2 d3 d4 e0 e1 e2 e3 e4 g0 g1 g2 g3 g4
  replace Bu := Lib.hid (tv17.heap Bu.out (show ¬ gu = gp by omega))
  replace Bq := Lib.hid (tv17.heap Bq.out (show ¬ gq = gp by omega))
  replace Bs := Lib.hid (tv17.heap Bs.out (show ¬ bs = gp by omega))
  replace Bd := Lib.hid (tv17.heap Bd.out (show ¬ bd = gp by omega))
  replace Bcb := Lib.hid (tv17.heap Bcb.out (show ¬ bcb = gp by omega))
  replace Bda := Lib.hid (tv17.heap Bda.out (show ¬ bda = gp by omega))
  replace Be := Lib.hid (tv17.heap Be.out (show ¬ be = gp by omega))
  replace Bf := Lib.hid (tv17.heap Bf.out (show ¬ bf = gp by omega))
  replace Bp := Lib.hid hh
  replace ht := Lib.hid (ht.out.trans tv17 fun i hi q => by unfold PQ; omega)
  clear hh tv17
  go_upto_region 15 with (go_at_call 86; refine (by_at (pos_z px) (pos_one 81) _ _ _ e f2 Bp.out Bf.out fe.out ff2.out).mono ?_; rintro r v18 ⟨rfl, hh, tv18⟩)
  replace Bu := Lib.hid (tv18.heap Bu.out (show ¬ gu = gp by omega))
  replace Bq := Lib.hid (tv18.heap Bq.out (show ¬ gq = gp by omega))
  replace Bs := Lib.hid (tv18.heap Bs.out (show ¬ bs = gp by omega))
  replace Bd := Lib.hid (tv18.heap Bd.out (show ¬ bd = gp by omega))
  replace Bcb := Lib.hid (tv18.heap Bcb.out (show ¬ bcb = gp by omega))
  replace Bda := Lib.hid (tv18.heap Bda.out (show ¬ bda = gp by omega))
  replace Be := Lib.hid (tv18.heap Be.out (show ¬ be = gp by omega))
  replace Bf := Lib.hid (tv18.heap Bf.out (show ¬ bf = gp by omega))
  replace Bp := Lib.hid (show v18.heap[gp]? = some (ptC px pz) by rw [hpz.out]; exact hh)
  replace ht := Lib.hid (ht.out.trans tv18 fun i hi q => by unfold PQ; omega)
  clear hh tv18
  go_upto_region 16 with (go_at_call 52; refine (Plus_at (pos_x z3) (pos_one 81) (pos_one 81) _ _ _ _ x3 da cb Bq.out Bda.out Bcb.out fda.out fcb.out).mono ?_; rintro r v19 ⟨rfl, hh, tv19⟩)
  replace Bu := Lib.hid (tv19.heap Bu.out (show ¬ gu = gq by omega))
  replace Bp := Lib.hid (tv19.heap Bp.out (show ¬ gp = gq by omega))
  replace Bs := Lib.hid (tv19.heap Bs.out (show ¬ bs = gq by omega))
  replace Bd := Lib.hid (tv19.heap Bd.out (show ¬ bd = gq by omega))
  replace Bcb := Lib.hid (tv19.heap Bcb.out (show ¬ bcb = gq by omega))
  replace Bda := Lib.hid (tv19.heap Bda.out (show ¬ bda = gq by omega))
  replace Be := Lib.hid (tv19.heap Be.out (show ¬ be = gq by omega))
  replace Bf := Lib.hid (tv19.heap Bf.out (show ¬ bf = gq by omega))
  replace Bq := Lib.hid (show v19.heap[gq]? = some (ptC qx0 z3) by rw [hqx0.out]; exact hh)
  replace ht := Lib.hid (ht.out.trans tv19 fun i hi q => by unfold PQ; omega)
  clear hh tv19
  go_upto_region 17 with (go_at_call 92; refine (square_at (pos_x z3) _ _ qx0 Bq.out fqx0.out).mono ?_; rintro r v20 ⟨rfl, hh, tv20⟩)
  replace Bu := Lib.hid (tv20.heap Bu.out (show ¬ gu = gq by omega))
  replace Bp := Lib.hid (tv20.heap Bp.out (show ¬ gp = gq by omega))
  replace Bs := Lib.hid (tv20.heap Bs.out (show ¬ bs = gq by omega))
  replace Bd := Lib.hid (tv20.heap Bd.out (show ¬ bd = gq by omega))
  replace Bcb := Lib.hid (tv20.heap Bcb.out (show ¬ bcb = gq by omega))
  replace Bda := Lib.hid (tv20.heap Bda.out (show ¬ bda = gq by omega))
  replace Be := Lib.hid (tv20.heap Be.out (show ¬ be = gq by omega))
  replace Bf := Lib.hid (tv20.heap Bf.out (show ¬ bf = gq by omega))
  replace Bq := Lib.hid (show v20.heap[gq]? = some (ptC qx z3) by rw [hqx.out]; exact hh)
  replace ht := Lib.hid (ht.out.trans tv20 fun i hi q => by unfold PQ; omega)
  clear hh tv20
  go_upto_region 18 with (go_at_call 66; refine (Minus_at (pos_z qx) (pos_one 81) (pos_one 81) _ _ _ _ z3 da cb Bq.out Bda.out Bcb.out fda.out fcb.out).mono ?_; rintro r v21 ⟨rfl, hh, tv21⟩)
  replace Bu := Lib.hid (tv21.heap Bu.out (show ¬ gu = gq by omega))
  replace Bp := Lib.hid (tv21.heap Bp.out (show ¬ gp = gq by omega))
  replace Bs := Lib.hid (tv21.heap Bs.out (show ¬ bs = gq by omega))
  replace Bd := Lib.hid (tv21.heap Bd.out (show ¬ bd = gq by omega))
  replace Bcb := Lib.hid (tv21.heap Bcb.out (show ¬ bcb = gq by omega))
  replace Bda := Lib.hid (tv21.heap Bda.out (show ¬ bda = gq by omega))
  replace Be := Lib.hid (tv21.heap Be.out (show ¬ be = gq by omega))
  replace Bf := Lib.hid (tv21.heap Bf.out (show ¬ bf = gq by omega))
  replace Bq := Lib.hid (show v21.heap[gq]? = some (ptC qx qz0) by rw [hqz0.out]; exact hh)
  replace ht := Lib.hid (ht.out.trans tv21 fun i hi q => by unfold PQ; omega)
  clear hh tv21
  go_upto_region 19 with (go_at_call 92; refine (square_at (pos_z qx) _ _ qz0 Bq.out fqz0.out).mono ?_; rintro r v22 ⟨rfl, hh, tv22⟩)
  replace Bu := Lib.hid (tv22.heap Bu.out (show ¬ gu = gq by omega))
  replace Bp := Lib.hid (tv22.heap Bp.out (show ¬ gp = gq by omega))
  replace Bs := Lib.hid (tv22.heap Bs.out (show ¬ bs = gq by omega))
  replace Bd := Lib.hid (tv22.heap Bd.out (show ¬ bd = gq by omega))
  replace Bcb := Lib.hid (tv22.heap Bcb.out (show ¬ bcb = gq by omega))
  replace Bda := Lib.hid (tv22.heap Bda.out (show ¬ bda = gq by omega))
  replace Be := Lib.hid (tv22.heap Be.out (show ¬ be = gq by omega))
  replace Bf := Lib.hid (tv22.heap Bf.out (show ¬ bf = gq by omega))
  replace Bq := Lib.hid (show v22.heap[gq]? = some (ptC qx qz1) by rw [hqz1.out]; exact hh)
  replace ht := Lib.hid (ht.out.trans tv22 fun i hi q => by unfold PQ; omega)
  clear hh tv22
  go_wp2_with (go_at_call 86; refine (by_at (pos_z qx) (pos_one 81) _ _ _ qz1 u Bq.out Bu.out fqz1.out fu.out).mono ?_; rintro r v23 ⟨rfl, hh, tv23⟩)
  replace Bu := Lib.hid (tv23.heap Bu.out (show ¬ gu = gq by omega))
  replace Bp := Lib.hid (tv23.heap Bp.out (show ¬ gp = gq by omega))
  replace Bs := Lib.hid (tv23.heap Bs.out (show ¬ bs = gq by omega))
  replace Bd := Lib.hid (tv23.heap Bd.out (show ¬ bd = gq by omega))
  replace Bcb := Lib.hid (tv23.heap Bcb.out (show ¬ bcb = gq by omega))
  replace Bda := Lib.hid (tv23.heap Bda.out (show ¬ bda = gq by omega))
  replace Be := Lib.hid (tv23.heap Be.out (show ¬ be = gq by omega))
  replace Bf := Lib.hid (tv23.heap Bf.out (show ¬ bf = gq by omega))
  replace Bq := Lib.hid (show v23.heap[gq]? = some (ptC qx qz) by rw [hqz.out]; exact hh)
  replace ht := Lib.hid (ht.out.trans tv23 fun i hi q => by unfold PQ; omega)
  clear hh tv23
  go_end0
  exact ⟨rfl, Bp.out, Bq.out, ht.out.mono fun k hk q => by unfold PQ at q; omega⟩

end Go.Proofs.Ytfnmnmjpcamkiaa
