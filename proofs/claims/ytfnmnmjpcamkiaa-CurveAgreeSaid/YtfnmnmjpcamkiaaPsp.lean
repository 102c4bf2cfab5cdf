/-
  Layer 1: Plus, Minus, wherever their numbers lie. Printed by mkpos.py.
-/
import Derived.Test.YtfnmnmjpcamkiaaPos
namespace Go.Proofs.Ytfnmnmjpcamkiaa
open Go.RowKit
set_option linter.unusedVariables false
set_option linter.unusedSimpArgs false

theorem carry_drew_at {ox : Nat} {K : El → Obj} (P : Pos ox K) (w : World) (g : Nat) (e : El) (h : w.heap[g]? = some (K e)) (hb : e.below 9223372036854775808) :
    Calls Try.prog 81 #[.pointer (some ⟨g, ox, none⟩)] w.drew fun r w' => r = .returned (.tuple #[]) ∧ w'.heap[g]? = some (K (carE e)) ∧ Touch (fun k => k = g) w w' :=
  (carry_at P w.drew g e h hb).mono fun r w' hp => ⟨hp.1, hp.2.1, (Touch.refl _ w).drew.trans' hp.2.2⟩

set_option maxRecDepth 100000 in
set_option maxHeartbeats 3200000 in
theorem Plus_at {ox oa ob : Nat} {K Ka Kb : El → Obj} (P : Pos ox K) (Pa : Pos oa Ka) (Pb : Pos ob Kb) (w : World) (g ga gb : Nat) (e a b : El) (h : w.heap[g]? = some (K e)) (ha : w.heap[ga]? = some (Ka a)) (hb : w.heap[gb]? = some (Kb b)) (fa : a.Fine) (fb : b.Fine) :
    Calls Try.prog 52 #[.pointer (some ⟨g, ox, none⟩), .pointer (some ⟨ga, oa, none⟩), .pointer (some ⟨gb, ob, none⟩)] w fun r w' => r = .returned (.tuple #[]) ∧ w'.heap[g]? = some (K (plusE a b)) ∧ Touch (fun k => k = g) w w' := by
  obtain ⟨e0, e1, e2, e3, e4⟩ := e
  obtain ⟨a0, a1, a2, a3, a4⟩ := a
  obtain ⟨b0, b1, b2, b3, b4⟩ := b
  obtain ⟨ca0, ca1, ca2, ca3, ca4⟩ := Pa.cells ha
  obtain ⟨cb0, cb1, cb2, cb3, cb4⟩ := Pb.cells hb
  obtain ⟨⟨p0, q0⟩, ⟨p1, q1⟩, ⟨p2, q2⟩, ⟨p3, q3⟩, ⟨p4, q4⟩⟩ := fa
  obtain ⟨⟨r0, s0⟩, ⟨r1, s1⟩, ⟨r2, s2⟩, ⟨r3, s3⟩, ⟨r4, s4⟩⟩ := fb
  simp only [] at *
  have f0 := P.frz h ox
  have f1 := P.frz h (ox + 1)
  have f2 := P.frz h (ox + 2)
  have f3 := P.frz h (ox + 3)
  have f4 := P.frz h (ox + 4)
  have w0 := u64_in (a0 + b0) (by omega)
  have w1 := u64_in (a1 + b1) (by omega)
  have w2 := u64_in (a2 + b2) (by omega)
  have w3 := u64_in (a3 + b3) (by omega)
  have w4 := u64_in (a4 + b4) (by omega)
  have hbel : El.below ⟨a0 + b0, a1 + b1, a2 + b2, a3 + b3, a4 + b4⟩ 9223372036854775808 := by unfold El.below; simp only []; omega
  replace h := Lib.hid h
  replace P := Lib.hid P
  clear Pa Pb
  replace hbel := Lib.hid hbel
  obtain ⟨d0, d1, d2, d3, d4⟩ := P.out.cells h.out
  clear p0 q0 p1 q1 p2 q2 p3 q3 p4 q4 r0 s0 r1 s1 r2 s2 r3 s3 r4 s4 ha hb
  go_enter Try.func52, Try.ntmps52
  go_upto_region 0 with fail
  refine wp_region_stage (S := (fun w9 : World => w9.cell? ⟨ga, oa, none⟩ = some (.int .u64 a0) ∧ w9.cell? ⟨ga, oa + 1, none⟩ = some (.int .u64 a1) ∧ w9.cell? ⟨ga, oa + 2, none⟩ = some (.int .u64 a2) ∧ w9.cell? ⟨ga, oa + 3, none⟩ = some (.int .u64 a3) ∧ w9.cell? ⟨ga, oa + 4, none⟩ = some (.int .u64 a4) ∧ w9.cell? ⟨gb, ob, none⟩ = some (.int .u64 b0) ∧ w9.cell? ⟨gb, ob + 1, none⟩ = some (.int .u64 b1) ∧ w9.cell? ⟨gb, ob + 2, none⟩ = some (.int .u64 b2) ∧ w9.cell? ⟨gb, ob + 3, none⟩ = some (.int .u64 b3) ∧ w9.cell? ⟨gb, ob + 4, none⟩ = some (.int .u64 b4))) (by kernel_rfl) ?_
  have hS0 : ((fun w9 : World => w9.cell? ⟨ga, oa, none⟩ = some (.int .u64 a0) ∧ w9.cell? ⟨ga, oa + 1, none⟩ = some (.int .u64 a1) ∧ w9.cell? ⟨ga, oa + 2, none⟩ = some (.int .u64 a2) ∧ w9.cell? ⟨ga, oa + 3, none⟩ = some (.int .u64 a3) ∧ w9.cell? ⟨ga, oa + 4, none⟩ = some (.int .u64 a4) ∧ w9.cell? ⟨gb, ob, none⟩ = some (.int .u64 b0) ∧ w9.cell? ⟨gb, ob + 1, none⟩ = some (.int .u64 b1) ∧ w9.cell? ⟨gb, ob + 2, none⟩ = some (.int .u64 b2) ∧ w9.cell? ⟨gb, ob + 3, none⟩ = some (.int .u64 b3) ∧ w9.cell? ⟨gb, ob + 4, none⟩ = some (.int .u64 b4))) w.drew := ⟨ca0, ca1, ca2, ca3, ca4, cb0, cb1, cb2, cb3, cb4⟩
  refine AnyG.pure (i := 0) (oi := ?oip0) (v := ?vp0) ?hip0 (by kernel_rfl) (by kernel_rfl) (by kernel_rfl) (by kernel_rfl) ?hQp0 (Or.inl ⟨?hwp0, ?hyp0⟩) (fun _ => hS0) ?hrp0
  case hip0 => (simp only [List.getElem?_toArray, List.getElem?_cons_succ, List.getElem?_cons_zero]; first | done | rfl)
  case hwp0 => rfl
  case hyp0 => (intro w9 hSw; (try dsimp only at hSw); go_simp; try with_reducible rfl)
  case hQp0 => exact fun _ _ _ h => h
  try simp only [Act.put, List.setIfInBounds_toArray, List.set_cons_zero, List.set_cons_succ]
  refine AnyG.pure (i := 1) (oi := ?oip1) (v := ?vp1) ?hip1 (by kernel_rfl) (by kernel_rfl) (by kernel_rfl) (by kernel_rfl) ?hQp1 (Or.inl ⟨?hwp1, ?hyp1⟩) (fun _ => hS0) ?hrp1
  case hip1 => (simp only [List.getElem?_toArray, List.getElem?_cons_succ, List.getElem?_cons_zero]; first | done | rfl)
  case hwp1 => rfl
  case hyp1 => (intro w9 hSw; (try dsimp only at hSw); go_simp; try with_reducible rfl)
  case hQp1 => exact fun _ _ _ h => h
  try simp only [Act.put, List.setIfInBounds_toArray, List.set_cons_zero, List.set_cons_succ]
  refine AnyG.pure (i := 2) (oi := ?oip2) (v := ?vp2) ?hip2 (by kernel_rfl) (by kernel_rfl) (by kernel_rfl) (by kernel_rfl) ?hQp2 (Or.inl ⟨?hwp2, ?hyp2⟩) (fun _ => hS0) ?hrp2
  case hip2 => (simp only [List.getElem?_toArray, List.getElem?_cons_succ, List.getElem?_cons_zero]; first | done | rfl)
  case hwp2 => rfl
  case hyp2 => (intro w9 hSw; (try dsimp only at hSw); go_simp; try with_reducible rfl)
  case hQp2 => exact fun _ _ _ h => h
  try simp only [Act.put, List.setIfInBounds_toArray, List.set_cons_zero, List.set_cons_succ]
  refine AnyG.pure (i := 3) (oi := ?oip3) (v := ?vp3) ?hip3 (by kernel_rfl) (by kernel_rfl) (by kernel_rfl) (by kernel_rfl) ?hQp3 (Or.inl ⟨?hwp3, ?hyp3⟩) (fun _ => hS0) ?hrp3
  case hip3 => (simp only [List.getElem?_toArray, List.getElem?_cons_succ, List.getElem?_cons_zero]; first | done | rfl)
  case hwp3 => rfl
  case hyp3 => (intro w9 hSw; (try dsimp only at hSw); go_simp; try with_reducible rfl)
  case hQp3 => exact fun _ _ _ h => h
  try simp only [Act.put, List.setIfInBounds_toArray, List.set_cons_zero, List.set_cons_succ]
  refine AnyG.pure (i := 4) (oi := ?oip4) (v := ?vp4) ?hip4 (by kernel_rfl) (by kernel_rfl) (by kernel_rfl) (by kernel_rfl) ?hQp4 (Or.inl ⟨?hwp4, ?hyp4⟩) (fun _ => hS0) ?hrp4
  case hip4 => (simp only [List.getElem?_toArray, List.getElem?_cons_succ, List.getElem?_cons_zero]; first | done | rfl)
  case hwp4 => rfl
  case hyp4 => (intro w9 hSw; (try dsimp only at hSw); go_simp; try with_reducible rfl)
  case hQp4 => exact fun _ _ _ h => h
  try simp only [Act.put, List.setIfInBounds_toArray, List.set_cons_zero, List.set_cons_succ]
  refine AnyG.pure (i := 5) (oi := ?oip5) (v := ?vp5) ?hip5 (by kernel_rfl) (by kernel_rfl) (by kernel_rfl) (by kernel_rfl) ?hQp5 (Or.inl ⟨?hwp5, ?hyp5⟩) (fun _ => hS0) ?hrp5
  case hip5 => (simp only [List.getElem?_toArray, List.getElem?_cons_succ, List.getElem?_cons_zero]; first | done | rfl)
  case hwp5 => rfl
  case hyp5 => (intro w9 hSw; (try dsimp only at hSw); go_simp; try with_reducible rfl)
  case hQp5 => exact fun _ _ _ h => h
  try simp only [Act.put, List.setIfInBounds_toArray, List.set_cons_zero, List.set_cons_succ]
  refine AnyG.pure (i := 6) (oi := ?oip6) (v := ?vp6) ?hip6 (by kernel_rfl) (by kernel_rfl) (by kernel_rfl) (by kernel_rfl) ?hQp6 (Or.inl ⟨?hwp6, ?hyp6⟩) (fun _ => hS0) ?hrp6
  case hip6 => (simp only [List.getElem?_toArray, List.getElem?_cons_succ, List.getElem?_cons_zero]; first | done | rfl)
  case hwp6 => rfl
  case hyp6 => (intro w9 hSw; (try dsimp only at hSw); go_simp; try with_reducible rfl)
  case hQp6 => exact fun _ _ _ h => h
  try simp only [Act.put, List.setIfInBounds_toArray, List.set_cons_zero, List.set_cons_succ]
  refine AnyG.pure (i := 7) (oi := ?oip7) (v := ?vp7) ?hip7 (by kernel_rfl) (by kernel_rfl) (by kernel_rfl) (by kernel_rfl) ?hQp7 (Or.inl ⟨?hwp7, ?hyp7⟩) (fun _ => hS0) ?hrp7
  case hip7 => (simp only [List.getElem?_toArray, List.getElem?_cons_succ, List.getElem?_cons_zero]; first | done | rfl)
  case hwp7 => rfl
  case hyp7 => (intro w9 hSw; (try dsimp only at hSw); go_simp; try with_reducible rfl)
  case hQp7 => exact fun _ _ _ h => h
  try simp only [Act.put, List.setIfInBounds_toArray, List.set_cons_zero, List.set_cons_succ]
  refine AnyG.read (i := 8) (oi := ?oip8) (v := ?vp8) ?hip8 (by kernel_rfl) (by kernel_rfl) (by kernel_rfl) (by kernel_rfl) (by kernel_rfl) ?hQp8 (Or.inl ⟨?hwp8, ?hyp8⟩) hS0 ?hrp8
  case hip8 => (simp only [List.getElem?_toArray, List.getElem?_cons_succ, List.getElem?_cons_zero]; first | done | rfl)
  case hwp8 => rfl
  case hyp8 => (intro w9 hSw; (try dsimp only at hSw); go_simp; try with_reducible rfl)
  case hQp8 => exact fun _ _ _ h => h
  try simp only [Act.put, List.setIfInBounds_toArray, List.set_cons_zero, List.set_cons_succ]
  refine AnyG.pure (i := 9) (oi := ?oip9) (v := ?vp9) ?hip9 (by kernel_rfl) (by kernel_rfl) (by kernel_rfl) (by kernel_rfl) ?hQp9 (Or.inl ⟨?hwp9, ?hyp9⟩) (fun _ => hS0) ?hrp9
  case hip9 => (simp only [List.getElem?_toArray, List.getElem?_cons_succ, List.getElem?_cons_zero]; first | done | rfl)
  case hwp9 => rfl
  case hyp9 => (intro w9 hSw; (try dsimp only at hSw); go_simp; try with_reducible rfl)
  case hQp9 => exact fun _ _ _ h => h
  try simp only [Act.put, List.setIfInBounds_toArray, List.set_cons_zero, List.set_cons_succ]
  refine AnyG.pure (i := 10) (oi := ?oip10) (v := ?vp10) ?hip10 (by kernel_rfl) (by kernel_rfl) (by kernel_rfl) (by kernel_rfl) ?hQp10 (Or.inl ⟨?hwp10, ?hyp10⟩) (fun _ => hS0) ?hrp10
  case hip10 => (simp only [List.getElem?_toArray, List.getElem?_cons_succ, List.getElem?_cons_zero]; first | done | rfl)
  case hwp10 => rfl
  case hyp10 => (intro w9 hSw; (try dsimp only at hSw); go_simp; try with_reducible rfl)
  case hQp10 => exact fun _ _ _ h => h
  try simp only [Act.put, List.setIfInBounds_toArray, List.set_cons_zero, List.set_cons_succ]
  refine AnyG.pure (i := 11) (oi := ?oip11) (v := ?vp11) ?hip11 (by kernel_rfl) (by kernel_rfl) (by kernel_rfl) (by kernel_rfl) ?hQp11 (Or.inl ⟨?hwp11, ?hyp11⟩) (fun _ => hS0) ?hrp11
  case hip11 => (simp only [List.getElem?_toArray, List.getElem?_cons_succ, List.getElem?_cons_zero]; first | done | rfl)
  case hwp11 => rfl
  case hyp11 => (intro w9 hSw; (try dsimp only at hSw); go_simp; try with_reducible rfl)
  case hQp11 => exact fun _ _ _ h => h
  try simp only [Act.put, List.setIfInBounds_toArray, List.set_cons_zero, List.set_cons_succ]
  refine AnyG.read (i := 12) (oi := ?oip12) (v := ?vp12) ?hip12 (by kernel_rfl) (by kernel_rfl) (by kernel_rfl) (by kernel_rfl) (by kernel_rfl) ?hQp12 (Or.inl ⟨?hwp12, ?hyp12⟩) hS0 ?hrp12
  case hip12 => (simp only [List.getElem?_toArray, List.getElem?_cons_succ, List.getElem?_cons_zero]; first | done | rfl)
  case hwp12 => rfl
  case hyp12 => (intro w9 hSw; (try dsimp only at hSw); go_simp; try with_reducible rfl)
  case hQp12 => exact fun _ _ _ h => h
  try simp only [Act.put, List.setIfInBounds_toArray, List.set_cons_zero, List.set_cons_succ]
  refine AnyG.pure (i := 13) (oi := ?oip13) (v := ?vp13) ?hip13 (by kernel_rfl) (by kernel_rfl) (by kernel_rfl) (by kernel_rfl) ?hQp13 (Or.inl ⟨?hwp13, ?hyp13⟩) (fun _ => hS0) ?hrp13
  case hip13 => (simp only [List.getElem?_toArray, List.getElem?_cons_succ, List.getElem?_cons_zero]; first | done | rfl)
  case hwp13 => rfl
  case hyp13 => (intro w9 hSw; (try dsimp only at hSw); go_simp; try with_reducible rfl)
  case hQp13 => exact fun _ _ _ h => h
  try simp only [Act.put, List.setIfInBounds_toArray, List.set_cons_zero, List.set_cons_succ]
  refine AnyG.pure (i := 14) (oi := ?oip14) (v := ?vp14) ?hip14 (by kernel_rfl) (by kernel_rfl) (by kernel_rfl) (by kernel_rfl) ?hQp14 (Or.inl ⟨?hwp14, ?hyp14⟩) (fun _ => hS0) ?hrp14
  case hip14 => (simp only [List.getElem?_toArray, List.getElem?_cons_succ, List.getElem?_cons_zero]; first | done | rfl)
  case hwp14 => rfl
  case hyp14 => (intro w9 hSw; (try dsimp only at hSw); go_simp; try with_reducible rfl)
  case hQp14 => exact fun _ _ _ h => h
  try simp only [Act.put, List.setIfInBounds_toArray, List.set_cons_zero, List.set_cons_succ]
  refine AnyG.pure (i := 15) (oi := ?oip15) (v := ?vp15) ?hip15 (by kernel_rfl) (by kernel_rfl) (by kernel_rfl) (by kernel_rfl) ?hQp15 (Or.inl ⟨?hwp15, ?hyp15⟩) (fun _ => hS0) ?hrp15
  case hip15 => (simp only [List.getElem?_toArray, List.getElem?_cons_succ, List.getElem?_cons_zero]; first | done | rfl)
  case hwp15 => rfl
  case hyp15 => (intro w9 hSw; (try dsimp only at hSw); go_simp; try with_reducible rfl)
  case hQp15 => exact fun _ _ _ h => h
  try simp only [Act.put, List.setIfInBounds_toArray, List.set_cons_zero, List.set_cons_succ]
  refine AnyG.pure (i := 16) (oi := ?oip16) (v := ?vp16) ?hip16 (by kernel_rfl) (by kernel_rfl) (by kernel_rfl) (by kernel_rfl) ?hQp16 (Or.inl ⟨?hwp16, ?hyp16⟩) (fun _ => hS0) ?hrp16
  case hip16 => (simp only [List.getElem?_toArray, List.getElem?_cons_succ, List.getElem?_cons_zero]; first | done | rfl)
  case hwp16 => rfl
  case hyp16 => (intro w9 hSw; (try dsimp only at hSw); go_simp; try with_reducible rfl)
  case hQp16 => exact fun _ _ _ h => h
  try simp only [Act.put, List.setIfInBounds_toArray, List.set_cons_zero, List.set_cons_succ]
  refine AnyG.read (i := 17) (oi := ?oip17) (v := ?vp17) ?hip17 (by kernel_rfl) (by kernel_rfl) (by kernel_rfl) (by kernel_rfl) (by kernel_rfl) ?hQp17 (Or.inl ⟨?hwp17, ?hyp17⟩) hS0 ?hrp17
  case hip17 => (simp only [List.getElem?_toArray, List.getElem?_cons_succ, List.getElem?_cons_zero]; first | done | rfl)
  case hwp17 => rfl
  case hyp17 => (intro w9 hSw; (try dsimp only at hSw); go_simp; try with_reducible rfl)
  case hQp17 => exact fun _ _ _ h => h
  try simp only [Act.put, List.setIfInBounds_toArray, List.set_cons_zero, List.set_cons_succ]
  refine AnyG.pure (i := 18) (oi := ?oip18) (v := ?vp18) ?hip18 (by kernel_rfl) (by kernel_rfl) (by kernel_rfl) (by kernel_rfl) ?hQp18 (Or.inl ⟨?hwp18, ?hyp18⟩) (fun _ => hS0) ?hrp18
  case hip18 => (simp only [List.getElem?_toArray, List.getElem?_cons_succ, List.getElem?_cons_zero]; first | done | rfl)
  case hwp18 => rfl
  case hyp18 => (intro w9 hSw; (try dsimp only at hSw); go_simp; try with_reducible rfl)
  case hQp18 => exact fun _ _ _ h => h
  try simp only [Act.put, List.setIfInBounds_toArray, List.set_cons_zero, List.set_cons_succ]
  refine AnyG.pure (i := 19) (oi := ?oip19) (v := ?vp19) ?hip19 (by kernel_rfl) (by kernel_rfl) (by kernel_rfl) (by kernel_rfl) ?hQp19 (Or.inl ⟨?hwp19, ?hyp19⟩) (fun _ => hS0) ?hrp19
  case hip19 => (simp only [List.getElem?_toArray, List.getElem?_cons_succ, List.getElem?_cons_zero]; first | done | rfl)
  case hwp19 => rfl
  case hyp19 => (intro w9 hSw; (try dsimp only at hSw); go_simp; try with_reducible rfl)
  case hQp19 => exact fun _ _ _ h => h
  try simp only [Act.put, List.setIfInBounds_toArray, List.set_cons_zero, List.set_cons_succ]
  refine AnyG.pure (i := 20) (oi := ?oip20) (v := ?vp20) ?hip20 (by kernel_rfl) (by kernel_rfl) (by kernel_rfl) (by kernel_rfl) ?hQp20 (Or.inl ⟨?hwp20, ?hyp20⟩) (fun _ => hS0) ?hrp20
  case hip20 => (simp only [List.getElem?_toArray, List.getElem?_cons_succ, List.getElem?_cons_zero]; first | done | rfl)
  case hwp20 => rfl
  case hyp20 => (intro w9 hSw; (try dsimp only at hSw); go_simp; try with_reducible rfl)
  case hQp20 => exact fun _ _ _ h => h
  try simp only [Act.put, List.setIfInBounds_toArray, List.set_cons_zero, List.set_cons_succ]
  refine AnyG.read (i := 21) (oi := ?oip21) (v := ?vp21) ?hip21 (by kernel_rfl) (by kernel_rfl) (by kernel_rfl) (by kernel_rfl) (by kernel_rfl) ?hQp21 (Or.inl ⟨?hwp21, ?hyp21⟩) hS0 ?hrp21
  case hip21 => (simp only [List.getElem?_toArray, List.getElem?_cons_succ, List.getElem?_cons_zero]; first | done | rfl)
  case hwp21 => rfl
  case hyp21 => (intro w9 hSw; (try dsimp only at hSw); go_simp; try with_reducible rfl)
  case hQp21 => exact fun _ _ _ h => h
  try simp only [Act.put, List.setIfInBounds_toArray, List.set_cons_zero, List.set_cons_succ]
  refine AnyG.pure (i := 22) (oi := ?oip22) (v := ?vp22) ?hip22 (by kernel_rfl) (by kernel_rfl) (by kernel_rfl) (by kernel_rfl) ?hQp22 (Or.inl ⟨?hwp22, ?hyp22⟩) (fun _ => hS0) ?hrp22
  case hip22 => (simp only [List.getElem?_toArray, List.getElem?_cons_succ, List.getElem?_cons_zero]; first | done | rfl)
  case hwp22 => rfl
  case hyp22 => (intro w9 hSw; (try dsimp only at hSw); go_simp; try with_reducible rfl)
  case hQp22 => exact fun _ _ _ h => h
  try simp only [Act.put, List.setIfInBounds_toArray, List.set_cons_zero, List.set_cons_succ]
  refine AnyG.pure (i := 23) (oi := ?oip23) (v := ?vp23) ?hip23 (by kernel_rfl) (by kernel_rfl) (by kernel_rfl) (by kernel_rfl) ?hQp23 (Or.inl ⟨?hwp23, ?hyp23⟩) (fun _ => hS0) ?hrp23
  case hip23 => (simp only [List.getElem?_toArray, List.getElem?_cons_succ, List.getElem?_cons_zero]; first | done | rfl)
  case hwp23 => rfl
  case hyp23 => (intro w9 hSw; (try dsimp only at hSw); go_simp; try with_reducible rfl)
  case hQp23 => exact fun _ _ _ h => h
  try simp only [Act.put, List.setIfInBounds_toArray, List.set_cons_zero, List.set_cons_succ]
  refine AnyG.pure (i := 24) (oi := ?oip24) (v := ?vp24) ?hip24 (by kernel_rfl) (by kernel_rfl) (by kernel_rfl) (by kernel_rfl) ?hQp24 (Or.inl ⟨?hwp24, ?hyp24⟩) (fun _ => hS0) ?hrp24
  case hip24 => (simp only [List.getElem?_toArray, List.getElem?_cons_succ, List.getElem?_cons_zero]; first | done | rfl)
  case hwp24 => rfl
  case hyp24 => (intro w9 hSw; (try dsimp only at hSw); go_simp; try with_reducible rfl)
  case hQp24 => exact fun _ _ _ h => h
  try simp only [Act.put, List.setIfInBounds_toArray, List.set_cons_zero, List.set_cons_succ]
  refine AnyG.pure (i := 25) (oi := ?oip25) (v := ?vp25) ?hip25 (by kernel_rfl) (by kernel_rfl) (by kernel_rfl) (by kernel_rfl) ?hQp25 (Or.inl ⟨?hwp25, ?hyp25⟩) (fun _ => hS0) ?hrp25
  case hip25 => (simp only [List.getElem?_toArray, List.getElem?_cons_succ, List.getElem?_cons_zero]; first | done | rfl)
  case hwp25 => rfl
  case hyp25 => (intro w9 hSw; (try dsimp only at hSw); go_simp; try with_reducible rfl)
  case hQp25 => exact fun _ _ _ h => h
  try simp only [Act.put, List.setIfInBounds_toArray, List.set_cons_zero, List.set_cons_succ]
  refine AnyG.read (i := 26) (oi := ?oip26) (v := ?vp26) ?hip26 (by kernel_rfl) (by kernel_rfl) (by kernel_rfl) (by kernel_rfl) (by kernel_rfl) ?hQp26 (Or.inl ⟨?hwp26, ?hyp26⟩) hS0 ?hrp26
  case hip26 => (simp only [List.getElem?_toArray, List.getElem?_cons_succ, List.getElem?_cons_zero]; first | done | rfl)
  case hwp26 => rfl
  case hyp26 => (intro w9 hSw; (try dsimp only at hSw); go_simp; try with_reducible rfl)
  case hQp26 => exact fun _ _ _ h => h
  try simp only [Act.put, List.setIfInBounds_toArray, List.set_cons_zero, List.set_cons_succ]
  refine AnyG.pure (i := 27) (oi := ?oip27) (v := ?vp27) ?hip27 (by kernel_rfl) (by kernel_rfl) (by kernel_rfl) (by kernel_rfl) ?hQp27 (Or.inl ⟨?hwp27, ?hyp27⟩) (fun _ => hS0) ?hrp27
  case hip27 => (simp only [List.getElem?_toArray, List.getElem?_cons_succ, List.getElem?_cons_zero]; first | done | rfl)
  case hwp27 => rfl
  case hyp27 => (intro w9 hSw; (try dsimp only at hSw); go_simp; try with_reducible rfl)
  case hQp27 => exact fun _ _ _ h => h
  try simp only [Act.put, List.setIfInBounds_toArray, List.set_cons_zero, List.set_cons_succ]
  refine AnyG.pure (i := 28) (oi := ?oip28) (v := ?vp28) ?hip28 (by kernel_rfl) (by kernel_rfl) (by kernel_rfl) (by kernel_rfl) ?hQp28 (Or.inl ⟨?hwp28, ?hyp28⟩) (fun _ => hS0) ?hrp28
  case hip28 => (simp only [List.getElem?_toArray, List.getElem?_cons_succ, List.getElem?_cons_zero]; first | done | rfl)
  case hwp28 => rfl
  case hyp28 => (intro w9 hSw; (try dsimp only at hSw); go_simp; try with_reducible rfl)
  case hQp28 => exact fun _ _ _ h => h
  try simp only [Act.put, List.setIfInBounds_toArray, List.set_cons_zero, List.set_cons_succ]
  refine AnyG.pure (i := 29) (oi := ?oip29) (v := ?vp29) ?hip29 (by kernel_rfl) (by kernel_rfl) (by kernel_rfl) (by kernel_rfl) ?hQp29 (Or.inl ⟨?hwp29, ?hyp29⟩) (fun _ => hS0) ?hrp29
  case hip29 => (simp only [List.getElem?_toArray, List.getElem?_cons_succ, List.getElem?_cons_zero]; first | done | rfl)
  case hwp29 => rfl
  case hyp29 => (intro w9 hSw; (try dsimp only at hSw); go_simp; try with_reducible rfl)
  case hQp29 => exact fun _ _ _ h => h
  try simp only [Act.put, List.setIfInBounds_toArray, List.set_cons_zero, List.set_cons_succ]
  refine AnyG.read (i := 30) (oi := ?oip30) (v := ?vp30) ?hip30 (by kernel_rfl) (by kernel_rfl) (by kernel_rfl) (by kernel_rfl) (by kernel_rfl) ?hQp30 (Or.inl ⟨?hwp30, ?hyp30⟩) hS0 ?hrp30
  case hip30 => (simp only [List.getElem?_toArray, List.getElem?_cons_succ, List.getElem?_cons_zero]; first | done | rfl)
  case hwp30 => rfl
  case hyp30 => (intro w9 hSw; (try dsimp only at hSw); go_simp; try with_reducible rfl)
  case hQp30 => exact fun _ _ _ h => h
  try simp only [Act.put, List.setIfInBounds_toArray, List.set_cons_zero, List.set_cons_succ]
  refine AnyG.pure (i := 31) (oi := ?oip31) (v := ?vp31) ?hip31 (by kernel_rfl) (by kernel_rfl) (by kernel_rfl) (by kernel_rfl) ?hQp31 (Or.inl ⟨?hwp31, ?hyp31⟩) (fun _ => hS0) ?hrp31
  case hip31 => (simp only [List.getElem?_toArray, List.getElem?_cons_succ, List.getElem?_cons_zero]; first | done | rfl)
  case hwp31 => rfl
  case hyp31 => (intro w9 hSw; (try dsimp only at hSw); go_simp; try with_reducible rfl)
  case hQp31 => exact fun _ _ _ h => h
  try simp only [Act.put, List.setIfInBounds_toArray, List.set_cons_zero, List.set_cons_succ]
  refine AnyG.pure (i := 32) (oi := ?oip32) (v := ?vp32) ?hip32 (by kernel_rfl) (by kernel_rfl) (by kernel_rfl) (by kernel_rfl) ?hQp32 (Or.inl ⟨?hwp32, ?hyp32⟩) (fun _ => hS0) ?hrp32
  case hip32 => (simp only [List.getElem?_toArray, List.getElem?_cons_succ, List.getElem?_cons_zero]; first | done | rfl)
  case hwp32 => rfl
  case hyp32 => (intro w9 hSw; (try dsimp only at hSw); go_simp; try with_reducible rfl)
  case hQp32 => exact fun _ _ _ h => h
  try simp only [Act.put, List.setIfInBounds_toArray, List.set_cons_zero, List.set_cons_succ]
  refine AnyG.pure (i := 33) (oi := ?oip33) (v := ?vp33) ?hip33 (by kernel_rfl) (by kernel_rfl) (by kernel_rfl) (by kernel_rfl) ?hQp33 (Or.inl ⟨?hwp33, ?hyp33⟩) (fun _ => hS0) ?hrp33
  case hip33 => (simp only [List.getElem?_toArray, List.getElem?_cons_succ, List.getElem?_cons_zero]; first | done | rfl)
  case hwp33 => rfl
  case hyp33 => (intro w9 hSw; (try dsimp only at hSw); go_simp; try with_reducible rfl)
  case hQp33 => exact fun _ _ _ h => h
  try simp only [Act.put, List.setIfInBounds_toArray, List.set_cons_zero, List.set_cons_succ]
  refine AnyG.pure (i := 34) (oi := ?oip34) (v := ?vp34) ?hip34 (by kernel_rfl) (by kernel_rfl) (by kernel_rfl) (by kernel_rfl) ?hQp34 (Or.inl ⟨?hwp34, ?hyp34⟩) (fun _ => hS0) ?hrp34
  case hip34 => (simp only [List.getElem?_toArray, List.getElem?_cons_succ, List.getElem?_cons_zero]; first | done | rfl)
  case hwp34 => rfl
  case hyp34 => (intro w9 hSw; (try dsimp only at hSw); go_simp; try with_reducible rfl)
  case hQp34 => exact fun _ _ _ h => h
  try simp only [Act.put, List.setIfInBounds_toArray, List.set_cons_zero, List.set_cons_succ]
  refine AnyG.read (i := 35) (oi := ?oip35) (v := ?vp35) ?hip35 (by kernel_rfl) (by kernel_rfl) (by kernel_rfl) (by kernel_rfl) (by kernel_rfl) ?hQp35 (Or.inl ⟨?hwp35, ?hyp35⟩) hS0 ?hrp35
  case hip35 => (simp only [List.getElem?_toArray, List.getElem?_cons_succ, List.getElem?_cons_zero]; first | done | rfl)
  case hwp35 => rfl
  case hyp35 => (intro w9 hSw; (try dsimp only at hSw); go_simp; try with_reducible rfl)
  case hQp35 => exact fun _ _ _ h => h
  try simp only [Act.put, List.setIfInBounds_toArray, List.set_cons_zero, List.set_cons_succ]
  refine AnyG.pure (i := 36) (oi := ?oip36) (v := ?vp36) ?hip36 (by kernel_rfl) (by kernel_rfl) (by kernel_rfl) (by kernel_rfl) ?hQp36 (Or.inl ⟨?hwp36, ?hyp36⟩) (fun _ => hS0) ?hrp36
  case hip36 => (simp only [List.getElem?_toArray, List.getElem?_cons_succ, List.getElem?_cons_zero]; first | done | rfl)
  case hwp36 => rfl
  case hyp36 => (intro w9 hSw; (try dsimp only at hSw); go_simp; try with_reducible rfl)
  case hQp36 => exact fun _ _ _ h => h
  try simp only [Act.put, List.setIfInBounds_toArray, List.set_cons_zero, List.set_cons_succ]
  refine AnyG.pure (i := 37) (oi := ?oip37) (v := ?vp37) ?hip37 (by kernel_rfl) (by kernel_rfl) (by kernel_rfl) (by kernel_rfl) ?hQp37 (Or.inl ⟨?hwp37, ?hyp37⟩) (fun _ => hS0) ?hrp37
  case hip37 => (simp only [List.getElem?_toArray, List.getElem?_cons_succ, List.getElem?_cons_zero]; first | done | rfl)
  case hwp37 => rfl
  case hyp37 => (intro w9 hSw; (try dsimp only at hSw); go_simp; try with_reducible rfl)
  case hQp37 => exact fun _ _ _ h => h
  try simp only [Act.put, List.setIfInBounds_toArray, List.set_cons_zero, List.set_cons_succ]
  refine AnyG.pure (i := 38) (oi := ?oip38) (v := ?vp38) ?hip38 (by kernel_rfl) (by kernel_rfl) (by kernel_rfl) (by kernel_rfl) ?hQp38 (Or.inl ⟨?hwp38, ?hyp38⟩) (fun _ => hS0) ?hrp38
  case hip38 => (simp only [List.getElem?_toArray, List.getElem?_cons_succ, List.getElem?_cons_zero]; first | done | rfl)
  case hwp38 => rfl
  case hyp38 => (intro w9 hSw; (try dsimp only at hSw); go_simp; try with_reducible rfl)
  case hQp38 => exact fun _ _ _ h => h
  try simp only [Act.put, List.setIfInBounds_toArray, List.set_cons_zero, List.set_cons_succ]
  refine AnyG.read (i := 39) (oi := ?oip39) (v := ?vp39) ?hip39 (by kernel_rfl) (by kernel_rfl) (by kernel_rfl) (by kernel_rfl) (by kernel_rfl) ?hQp39 (Or.inl ⟨?hwp39, ?hyp39⟩) hS0 ?hrp39
  case hip39 => (simp only [List.getElem?_toArray, List.getElem?_cons_succ, List.getElem?_cons_zero]; first | done | rfl)
  case hwp39 => rfl
  case hyp39 => (intro w9 hSw; (try dsimp only at hSw); go_simp; try with_reducible rfl)
  case hQp39 => exact fun _ _ _ h => h
  try simp only [Act.put, List.setIfInBounds_toArray, List.set_cons_zero, List.set_cons_succ]
  refine AnyG.pure (i := 40) (oi := ?oip40) (v := ?vp40) ?hip40 (by kernel_rfl) (by kernel_rfl) (by kernel_rfl) (by kernel_rfl) ?hQp40 (Or.inl ⟨?hwp40, ?hyp40⟩) (fun _ => hS0) ?hrp40
  case hip40 => (simp only [List.getElem?_toArray, List.getElem?_cons_succ, List.getElem?_cons_zero]; first | done | rfl)
  case hwp40 => rfl
  case hyp40 => (intro w9 hSw; (try dsimp only at hSw); go_simp; try with_reducible rfl)
  case hQp40 => exact fun _ _ _ h => h
  try simp only [Act.put, List.setIfInBounds_toArray, List.set_cons_zero, List.set_cons_succ]
  refine AnyG.pure (i := 41) (oi := ?oip41) (v := ?vp41) ?hip41 (by kernel_rfl) (by kernel_rfl) (by kernel_rfl) (by kernel_rfl) ?hQp41 (Or.inl ⟨?hwp41, ?hyp41⟩) (fun _ => hS0) ?hrp41
  case hip41 => (simp only [List.getElem?_toArray, List.getElem?_cons_succ, List.getElem?_cons_zero]; first | done | rfl)
  case hwp41 => rfl
  case hyp41 => (intro w9 hSw; (try dsimp only at hSw); go_simp; try with_reducible rfl)
  case hQp41 => exact fun _ _ _ h => h
  try simp only [Act.put, List.setIfInBounds_toArray, List.set_cons_zero, List.set_cons_succ]
  refine AnyG.pure (i := 42) (oi := ?oip42) (v := ?vp42) ?hip42 (by kernel_rfl) (by kernel_rfl) (by kernel_rfl) (by kernel_rfl) ?hQp42 (Or.inl ⟨?hwp42, ?hyp42⟩) (fun _ => hS0) ?hrp42
  case hip42 => (simp only [List.getElem?_toArray, List.getElem?_cons_succ, List.getElem?_cons_zero]; first | done | rfl)
  case hwp42 => rfl
  case hyp42 => (intro w9 hSw; (try dsimp only at hSw); go_simp; try with_reducible rfl)
  case hQp42 => exact fun _ _ _ h => h
  try simp only [Act.put, List.setIfInBounds_toArray, List.set_cons_zero, List.set_cons_succ]
  refine AnyG.pure (i := 43) (oi := ?oip43) (v := ?vp43) ?hip43 (by kernel_rfl) (by kernel_rfl) (by kernel_rfl) (by kernel_rfl) ?hQp43 (Or.inl ⟨?hwp43, ?hyp43⟩) (fun _ => hS0) ?hrp43
  case hip43 => (simp only [List.getElem?_toArray, List.getElem?_cons_succ, List.getElem?_cons_zero]; first | done | rfl)
  case hwp43 => rfl
  case hyp43 => (intro w9 hSw; (try dsimp only at hSw); go_simp; try with_reducible rfl)
  case hQp43 => exact fun _ _ _ h => h
  try simp only [Act.put, List.setIfInBounds_toArray, List.set_cons_zero, List.set_cons_succ]
  refine AnyG.read (i := 44) (oi := ?oip44) (v := ?vp44) ?hip44 (by kernel_rfl) (by kernel_rfl) (by kernel_rfl) (by kernel_rfl) (by kernel_rfl) ?hQp44 (Or.inl ⟨?hwp44, ?hyp44⟩) hS0 ?hrp44
  case hip44 => (simp only [List.getElem?_toArray, List.getElem?_cons_succ, List.getElem?_cons_zero]; first | done | rfl)
  case hwp44 => rfl
  case hyp44 => (intro w9 hSw; (try dsimp only at hSw); go_simp; try with_reducible rfl)
  case hQp44 => exact fun _ _ _ h => h
  try simp only [Act.put, List.setIfInBounds_toArray, List.set_cons_zero, List.set_cons_succ]
  refine AnyG.pure (i := 45) (oi := ?oip45) (v := ?vp45) ?hip45 (by kernel_rfl) (by kernel_rfl) (by kernel_rfl) (by kernel_rfl) ?hQp45 (Or.inl ⟨?hwp45, ?hyp45⟩) (fun _ => hS0) ?hrp45
  case hip45 => (simp only [List.getElem?_toArray, List.getElem?_cons_succ, List.getElem?_cons_zero]; first | done | rfl)
  case hwp45 => rfl
  case hyp45 => (intro w9 hSw; (try dsimp only at hSw); go_simp; try with_reducible rfl)
  case hQp45 => exact fun _ _ _ h => h
  try simp only [Act.put, List.setIfInBounds_toArray, List.set_cons_zero, List.set_cons_succ]
  refine AnyG.pure (i := 46) (oi := ?oip46) (v := ?vp46) ?hip46 (by kernel_rfl) (by kernel_rfl) (by kernel_rfl) (by kernel_rfl) ?hQp46 (Or.inl ⟨?hwp46, ?hyp46⟩) (fun _ => hS0) ?hrp46
  case hip46 => (simp only [List.getElem?_toArray, List.getElem?_cons_succ, List.getElem?_cons_zero]; first | done | rfl)
  case hwp46 => rfl
  case hyp46 => (intro w9 hSw; (try dsimp only at hSw); go_simp; try with_reducible rfl)
  case hQp46 => exact fun _ _ _ h => h
  try simp only [Act.put, List.setIfInBounds_toArray, List.set_cons_zero, List.set_cons_succ]
  refine AnyG.pure (i := 47) (oi := ?oip47) (v := ?vp47) ?hip47 (by kernel_rfl) (by kernel_rfl) (by kernel_rfl) (by kernel_rfl) ?hQp47 (Or.inl ⟨?hwp47, ?hyp47⟩) (fun _ => hS0) ?hrp47
  case hip47 => (simp only [List.getElem?_toArray, List.getElem?_cons_succ, List.getElem?_cons_zero]; first | done | rfl)
  case hwp47 => rfl
  case hyp47 => (intro w9 hSw; (try dsimp only at hSw); go_simp; try with_reducible rfl)
  case hQp47 => exact fun _ _ _ h => h
  try simp only [Act.put, List.setIfInBounds_toArray, List.set_cons_zero, List.set_cons_succ]
  refine AnyG.read (i := 48) (oi := ?oip48) (v := ?vp48) ?hip48 (by kernel_rfl) (by kernel_rfl) (by kernel_rfl) (by kernel_rfl) (by kernel_rfl) ?hQp48 (Or.inl ⟨?hwp48, ?hyp48⟩) hS0 ?hrp48
  case hip48 => (simp only [List.getElem?_toArray, List.getElem?_cons_succ, List.getElem?_cons_zero]; first | done | rfl)
  case hwp48 => rfl
  case hyp48 => (intro w9 hSw; (try dsimp only at hSw); go_simp; try with_reducible rfl)
  case hQp48 => exact fun _ _ _ h => h
  try simp only [Act.put, List.setIfInBounds_toArray, List.set_cons_zero, List.set_cons_succ]
  refine AnyG.pure (i := 49) (oi := ?oip49) (v := ?vp49) ?hip49 (by kernel_rfl) (by kernel_rfl) (by kernel_rfl) (by kernel_rfl) ?hQp49 (Or.inl ⟨?hwp49, ?hyp49⟩) (fun _ => hS0) ?hrp49
  case hip49 => (simp only [List.getElem?_toArray, List.getElem?_cons_succ, List.getElem?_cons_zero]; first | done | rfl)
  case hwp49 => rfl
  case hyp49 => (intro w9 hSw; (try dsimp only at hSw); go_simp; try with_reducible rfl)
  case hQp49 => exact fun _ _ _ h => h
  try simp only [Act.put, List.setIfInBounds_toArray, List.set_cons_zero, List.set_cons_succ]
  refine AnyG.pure (i := 50) (oi := ?oip50) (v := ?vp50) ?hip50 (by kernel_rfl) (by kernel_rfl) (by kernel_rfl) (by kernel_rfl) ?hQp50 (Or.inl ⟨?hwp50, ?hyp50⟩) (fun _ => hS0) ?hrp50
  case hip50 => (simp only [List.getElem?_toArray, List.getElem?_cons_succ, List.getElem?_cons_zero]; first | done | rfl)
  case hwp50 => rfl
  case hyp50 => (intro w9 hSw; (try dsimp only at hSw); go_simp; try with_reducible rfl)
  case hQp50 => exact fun _ _ _ h => h
  try simp only [Act.put, List.setIfInBounds_toArray, List.set_cons_zero, List.set_cons_succ]
  refine AnyG.pure (i := 51) (oi := ?oip51) (v := ?vp51) ?hip51 (by kernel_rfl) (by kernel_rfl) (by kernel_rfl) (by kernel_rfl) ?hQp51 (Or.inl ⟨?hwp51, ?hyp51⟩) (fun _ => hS0) ?hrp51
  case hip51 => (simp only [List.getElem?_toArray, List.getElem?_cons_succ, List.getElem?_cons_zero]; first | done | rfl)
  case hwp51 => rfl
  case hyp51 => (intro w9 hSw; (try dsimp only at hSw); go_simp; try with_reducible rfl)
  case hQp51 => exact fun _ _ _ h => h
  try simp only [Act.put, List.setIfInBounds_toArray, List.set_cons_zero, List.set_cons_succ]
  refine AnyG.pure (i := 53) (oi := ?oip53) (v := ?vp53) ?hip53 (by kernel_rfl) (by kernel_rfl) (by kernel_rfl) (by kernel_rfl) ?hQp53 (Or.inl ⟨?hwp53, ?hyp53⟩) (fun _ => hS0) ?hrp53
  case hip53 => (simp only [List.getElem?_toArray, List.getElem?_cons_succ, List.getElem?_cons_zero]; first | done | rfl)
  case hwp53 => rfl
  case hyp53 => (intro w9 hSw; (try dsimp only at hSw); go_simp; try with_reducible rfl)
  case hQp53 => exact fun _ _ _ h => h
  try simp only [Act.put, List.setIfInBounds_toArray, List.set_cons_zero, List.set_cons_succ]
  refine AnyG.pure (i := 56) (oi := ?oip56) (v := ?vp56) ?hip56 (by kernel_rfl) (by kernel_rfl) (by kernel_rfl) (by kernel_rfl) ?hQp56 (Or.inl ⟨?hwp56, ?hyp56⟩) (fun _ => hS0) ?hrp56
  case hip56 => (simp only [List.getElem?_toArray, List.getElem?_cons_succ, List.getElem?_cons_zero]; first | done | rfl)
  case hwp56 => rfl
  case hyp56 => (intro w9 hSw; (try dsimp only at hSw); go_simp; try with_reducible rfl)
  case hQp56 => exact fun _ _ _ h => h
  try simp only [Act.put, List.setIfInBounds_toArray, List.set_cons_zero, List.set_cons_succ]
  refine AnyG.pure (i := 59) (oi := ?oip59) (v := ?vp59) ?hip59 (by kernel_rfl) (by kernel_rfl) (by kernel_rfl) (by kernel_rfl) ?hQp59 (Or.inl ⟨?hwp59, ?hyp59⟩) (fun _ => hS0) ?hrp59
  case hip59 => (simp only [List.getElem?_toArray, List.getElem?_cons_succ, List.getElem?_cons_zero]; first | done | rfl)
  case hwp59 => rfl
  case hyp59 => (intro w9 hSw; (try dsimp only at hSw); go_simp; try with_reducible rfl)
  case hQp59 => exact fun _ _ _ h => h
  try simp only [Act.put, List.setIfInBounds_toArray, List.set_cons_zero, List.set_cons_succ]
  refine AnyG.pure (i := 62) (oi := ?oip62) (v := ?vp62) ?hip62 (by kernel_rfl) (by kernel_rfl) (by kernel_rfl) (by kernel_rfl) ?hQp62 (Or.inl ⟨?hwp62, ?hyp62⟩) (fun _ => hS0) ?hrp62
  case hip62 => (simp only [List.getElem?_toArray, List.getElem?_cons_succ, List.getElem?_cons_zero]; first | done | rfl)
  case hwp62 => rfl
  case hyp62 => (intro w9 hSw; (try dsimp only at hSw); go_simp; try with_reducible rfl)
  case hQp62 => exact fun _ _ _ h => h
  try simp only [Act.put, List.setIfInBounds_toArray, List.set_cons_zero, List.set_cons_succ]
  refine AnyG.store (i := 52) (o := ?oip52) (by kernel_rfl) (by kernel_rfl) ?hip52 (fun K hK => ?hrp52)
  case hip52 => (simp only [List.getElem?_toArray, List.getElem?_cons_succ, List.getElem?_cons_zero]; first | done | rfl)
  go_simp
  refine hK.out _ _ ?_
  clear hK K
  try simp only [Act.put, List.setIfInBounds_toArray, List.set_cons_zero, List.set_cons_succ]
  refine AnyG.late (i := 54) (oi := ?oip54) (v := ?vp54) ?hip54 (by kernel_rfl) (by kernel_rfl) (by kernel_rfl) (by kernel_rfl) ?hQp54 (Or.inl ⟨?hwp54, ?hyp54⟩) (by kernel_rfl) ?hrp54
  case hip54 => (simp only [List.getElem?_toArray, List.getElem?_cons_succ, List.getElem?_cons_zero]; first | done | rfl)
  case hwp54 => rfl
  case hyp54 => (intro w9 hSw; (try dsimp only at hSw); go_simp; try with_reducible rfl)
  case hQp54 => exact fun _ _ _ h => h
  try simp only [Act.put, List.setIfInBounds_toArray, List.set_cons_zero, List.set_cons_succ]
  refine AnyG.store (i := 55) (o := ?oip55) (by kernel_rfl) (by kernel_rfl) ?hip55 (fun K hK => ?hrp55)
  case hip55 => (simp only [List.getElem?_toArray, List.getElem?_cons_succ, List.getElem?_cons_zero]; first | done | rfl)
  go_simp
  refine hK.out _ _ ?_
  clear hK K
  try simp only [Act.put, List.setIfInBounds_toArray, List.set_cons_zero, List.set_cons_succ]
  refine AnyG.late (i := 57) (oi := ?oip57) (v := ?vp57) ?hip57 (by kernel_rfl) (by kernel_rfl) (by kernel_rfl) (by kernel_rfl) ?hQp57 (Or.inl ⟨?hwp57, ?hyp57⟩) (by kernel_rfl) ?hrp57
  case hip57 => (simp only [List.getElem?_toArray, List.getElem?_cons_succ, List.getElem?_cons_zero]; first | done | rfl)
  case hwp57 => rfl
  case hyp57 => (intro w9 hSw; (try dsimp only at hSw); go_simp; try with_reducible rfl)
  case hQp57 => exact fun _ _ _ h => h
  try simp only [Act.put, List.setIfInBounds_toArray, List.set_cons_zero, List.set_cons_succ]
  refine AnyG.store (i := 58) (o := ?oip58) (by kernel_rfl) (by kernel_rfl) ?hip58 (fun K hK => ?hrp58)
  case hip58 => (simp only [List.getElem?_toArray, List.getElem?_cons_succ, List.getElem?_cons_zero]; first | done | rfl)
  go_simp
  refine hK.out _ _ ?_
  clear hK K
  try simp only [Act.put, List.setIfInBounds_toArray, List.set_cons_zero, List.set_cons_succ]
  refine AnyG.late (i := 60) (oi := ?oip60) (v := ?vp60) ?hip60 (by kernel_rfl) (by kernel_rfl) (by kernel_rfl) (by kernel_rfl) ?hQp60 (Or.inl ⟨?hwp60, ?hyp60⟩) (by kernel_rfl) ?hrp60
  case hip60 => (simp only [List.getElem?_toArray, List.getElem?_cons_succ, List.getElem?_cons_zero]; first | done | rfl)
  case hwp60 => rfl
  case hyp60 => (intro w9 hSw; (try dsimp only at hSw); go_simp; try with_reducible rfl)
  case hQp60 => exact fun _ _ _ h => h
  try simp only [Act.put, List.setIfInBounds_toArray, List.set_cons_zero, List.set_cons_succ]
  refine AnyG.store (i := 61) (o := ?oip61) (by kernel_rfl) (by kernel_rfl) ?hip61 (fun K hK => ?hrp61)
  case hip61 => (simp only [List.getElem?_toArray, List.getElem?_cons_succ, List.getElem?_cons_zero]; first | done | rfl)
  go_simp
  refine hK.out _ _ ?_
  clear hK K
  try simp only [Act.put, List.setIfInBounds_toArray, List.set_cons_zero, List.set_cons_succ]
  refine AnyG.late (i := 63) (oi := ?oip63) (v := ?vp63) ?hip63 (by kernel_rfl) (by kernel_rfl) (by kernel_rfl) (by kernel_rfl) ?hQp63 (Or.inl ⟨?hwp63, ?hyp63⟩) (by kernel_rfl) ?hrp63
  case hip63 => (simp only [List.getElem?_toArray, List.getElem?_cons_succ, List.getElem?_cons_zero]; first | done | rfl)
  case hwp63 => rfl
  case hyp63 => (intro w9 hSw; (try dsimp only at hSw); go_simp; try with_reducible rfl)
  case hQp63 => exact fun _ _ _ h => h
  try simp only [Act.put, List.setIfInBounds_toArray, List.set_cons_zero, List.set_cons_succ]
  refine AnyG.store (i := 64) (o := ?oip64) (by kernel_rfl) (by kernel_rfl) ?hip64 (fun K hK => ?hrp64)
  case hip64 => (simp only [List.getElem?_toArray, List.getElem?_cons_succ, List.getElem?_cons_zero]; first | done | rfl)
  go_simp
  refine hK.out _ _ ?_
  clear hK K
  try simp only [Act.put, List.setIfInBounds_toArray, List.set_cons_zero, List.set_cons_succ]
  refine AnyG.done (by kernel_rfl) ?_ _
  clear hS0
  have hst := Lib.hid (P.out.set4 (P.out.set3 (P.out.set2 (P.out.set1 (P.out.set0 (v := a0 + b0) h.out) (v := a1 + b1)) (v := a2 + b2)) (v := a3 + b3)) (v := a4 + b4))
  have htt := Lib.hid (touch_el (i := ox + 4) (v := .int .u64 (a4 + b4)) (touch_el (i := ox + 3) (v := .int .u64 (a3 + b3)) (touch_el (i := ox + 2) (v := .int .u64 (a2 + b2)) (touch_el (i := ox + 1) (v := .int .u64 (a1 + b1)) (touch_el (i := ox) (v := .int .u64 (a0 + b0)) (Touch.refl (fun k => k = g) w))))))
  go_wp2_with (go_at_call 81; refine (carry_drew_at P.out _ g _ hst.out hbel.out).mono ?_; rintro r w2 ⟨rfl, hh, ht⟩)
  go_end0
  exact ⟨rfl, hh, htt.out.trans' ht⟩


end Go.Proofs.Ytfnmnmjpcamkiaa
