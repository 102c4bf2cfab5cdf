/-
  Layer 1: Plus, Minus, wherever their numbers lie. Printed by mkpos.py.
-/
import Derived.Test.YtfnmnmjpcamkiaaPsp
namespace Go.Proofs.Ytfnmnmjpcamkiaa
open Go.RowKit
set_option linter.unusedVariables false
set_option linter.unusedSimpArgs false

set_option maxRecDepth 100000 in
set_option maxHeartbeats 3200000 in
theorem Minus_at {ox oa ob : Nat} {K Ka Kb : El → Obj} (P : Pos ox K) (Pa : Pos oa Ka) (Pb : Pos ob Kb) (w : World) (g ga gb : Nat) (e a b : El) (h : w.heap[g]? = some (K e)) (ha : w.heap[ga]? = some (Ka a)) (hb : w.heap[gb]? = some (Kb b)) (fa : a.Fine) (fb : b.Fine) :
    Calls Try.prog 66 #[.pointer (some ⟨g, ox, none⟩), .pointer (some ⟨ga, oa, none⟩), .pointer (some ⟨gb, ob, none⟩)] w fun r w' => r = .returned (.tuple #[]) ∧ w'.heap[g]? = some (K (minE a b)) ∧ Touch (fun k => k = g) w w' := by
  obtain ⟨e0, e1, e2, e3, e4⟩ := e
  obtain ⟨a0, a1, a2, a3, a4⟩ := a
  obtain ⟨b0, b1, b2, b3, b4⟩ := b
  obtain ⟨ca0, ca1, ca2, ca3, ca4⟩ := Pa.cells ha
  obtain ⟨cb0, cb1, cb2, cb3, cb4⟩ := Pb.cells hb
  obtain ⟨⟨p0, q0⟩, ⟨p1, q1⟩, ⟨p2, q2⟩, ⟨p3, q3⟩, ⟨p4, q4⟩⟩ := fa
  obtain ⟨⟨r0, s0⟩, ⟨r1, s1⟩, ⟨r2, s2⟩, ⟨r3, s3⟩, ⟨r4, s4⟩⟩ := fb
  simp only [] at *
  have f0 := P.frz h ox
  have f1 := P.frz h (ox + 1)
  have f2 := P.frz h (ox + 2)
  have f3 := P.frz h (ox + 3)
  have f4 := P.frz h (ox + 4)
  have w0 := u64_in (a0 + 9007199254740916) (by omega)
  have w1 := u64_in (a0 + 9007199254740916 - b0) (by omega)
  have w2 := u64_in (a1 + 9007199254740988) (by omega)
  have w3 := u64_in (a1 + 9007199254740988 - b1) (by omega)
  have w4 := u64_in (a2 + 9007199254740988) (by omega)
  have w5 := u64_in (a2 + 9007199254740988 - b2) (by omega)
  have w6 := u64_in (a3 + 9007199254740988) (by omega)
  have w7 := u64_in (a3 + 9007199254740988 - b3) (by omega)
  have w8 := u64_in (a4 + 9007199254740988) (by omega)
  have w9 := u64_in (a4 + 9007199254740988 - b4) (by omega)
  have hbel : El.below ⟨a0 + 9007199254740916 - b0, a1 + 9007199254740988 - b1, a2 + 9007199254740988 - b2, a3 + 9007199254740988 - b3, a4 + 9007199254740988 - b4⟩ 9223372036854775808 := by unfold El.below; simp only []; omega
  replace h := Lib.hid h
  replace P := Lib.hid P
  clear Pa Pb
  replace hbel := Lib.hid hbel
  obtain ⟨d0, d1, d2, d3, d4⟩ := P.out.cells h.out
  clear p0 q0 p1 q1 p2 q2 p3 q3 p4 q4 r0 s0 r1 s1 r2 s2 r3 s3 r4 s4 ha hb
  go_enter Try.func66, Try.ntmps66
  go_upto_region 0 with fail
  refine wp_region_stage (S := (fun w9 : World => w9.cell? ⟨ga, oa, none⟩ = some (.int .u64 a0) ∧ w9.cell? ⟨ga, oa + 1, none⟩ = some (.int .u64 a1) ∧ w9.cell? ⟨ga, oa + 2, none⟩ = some (.int .u64 a2) ∧ w9.cell? ⟨ga, oa + 3, none⟩ = some (.int .u64 a3) ∧ w9.cell? ⟨ga, oa + 4, none⟩ = some (.int .u64 a4) ∧ w9.cell? ⟨gb, ob, none⟩ = some (.int .u64 b0) ∧ w9.cell? ⟨gb, ob + 1, none⟩ = some (.int .u64 b1) ∧ w9.cell? ⟨gb, ob + 2, none⟩ = some (.int .u64 b2) ∧ w9.cell? ⟨gb, ob + 3, none⟩ = some (.int .u64 b3) ∧ w9.cell? ⟨gb, ob + 4, none⟩ = some (.int .u64 b4))) (by kernel_rfl) ?_
  have hS0 : ((fun w9 : World => w9.cell? ⟨ga, oa, none⟩ = some (.int .u64 a0) ∧ w9.cell? ⟨ga, oa + 1, none⟩ = some (.int .u64 a1) ∧ w9.cell? ⟨ga, oa + 2, none⟩ = some (.int .u64 a2) ∧ w9.cell? ⟨ga, oa + 3, none⟩ = some (.int .u64 a3) ∧ w9.cell? ⟨ga, oa + 4, none⟩ = some (.int .u64 a4) ∧ w9.cell? ⟨gb, ob, none⟩ = some (.int .u64 b0) ∧ w9.cell? ⟨gb, ob + 1, none⟩ = some (.int .u64 b1) ∧ w9.cell? ⟨gb, ob + 2, none⟩ = some (.int .u64 b2) ∧ w9.cell? ⟨gb, ob + 3, none⟩ = some (.int .u64 b3) ∧ w9.cell? ⟨gb, ob + 4, none⟩ = some (.int .u64 b4))) w.drew := ⟨ca0, ca1, ca2, ca3, ca4, cb0, cb1, cb2, cb3, cb4⟩
  refine AnyG.pure (i := 0) (oi := ?oim0) (v := ?vm0) ?him0 (by kernel_rfl) (by kernel_rfl) (by kernel_rfl) (by kernel_rfl) ?hQm0 (Or.inl ⟨?hwm0, ?hym0⟩) (fun _ => hS0) ?hrm0
  case him0 => (simp only [List.getElem?_toArray, List.getElem?_cons_succ, List.getElem?_cons_zero]; first | done | rfl)
  case hwm0 => rfl
  case hym0 => (intro w9 hSw; (try dsimp only at hSw); go_simp; try with_reducible rfl)
  case hQm0 => exact fun _ _ _ h => h
  try simp only [Act.put, List.setIfInBounds_toArray, List.set_cons_zero, List.set_cons_succ]
  refine AnyG.pure (i := 1) (oi := ?oim1) (v := ?vm1) ?him1 (by kernel_rfl) (by kernel_rfl) (by kernel_rfl) (by kernel_rfl) ?hQm1 (Or.inl ⟨?hwm1, ?hym1⟩) (fun _ => hS0) ?hrm1
  case him1 => (simp only [List.getElem?_toArray, List.getElem?_cons_succ, List.getElem?_cons_zero]; first | done | rfl)
  case hwm1 => rfl
  case hym1 => (intro w9 hSw; (try dsimp only at hSw); go_simp; try with_reducible rfl)
  case hQm1 => exact fun _ _ _ h => h
  try simp only [Act.put, List.setIfInBounds_toArray, List.set_cons_zero, List.set_cons_succ]
  refine AnyG.pure (i := 2) (oi := ?oim2) (v := ?vm2) ?him2 (by kernel_rfl) (by kernel_rfl) (by kernel_rfl) (by kernel_rfl) ?hQm2 (Or.inl ⟨?hwm2, ?hym2⟩) (fun _ => hS0) ?hrm2
  case him2 => (simp only [List.getElem?_toArray, List.getElem?_cons_succ, List.getElem?_cons_zero]; first | done | rfl)
  case hwm2 => rfl
  case hym2 => (intro w9 hSw; (try dsimp only at hSw); go_simp; try with_reducible rfl)
  case hQm2 => exact fun _ _ _ h => h
  try simp only [Act.put, List.setIfInBounds_toArray, List.set_cons_zero, List.set_cons_succ]
  refine AnyG.pure (i := 3) (oi := ?oim3) (v := ?vm3) ?him3 (by kernel_rfl) (by kernel_rfl) (by kernel_rfl) (by kernel_rfl) ?hQm3 (Or.inl ⟨?hwm3, ?hym3⟩) (fun _ => hS0) ?hrm3
  case him3 => (simp only [List.getElem?_toArray, List.getElem?_cons_succ, List.getElem?_cons_zero]; first | done | rfl)
  case hwm3 => rfl
  case hym3 => (intro w9 hSw; (try dsimp only at hSw); go_simp; try with_reducible rfl)
  case hQm3 => exact fun _ _ _ h => h
  try simp only [Act.put, List.setIfInBounds_toArray, List.set_cons_zero, List.set_cons_succ]
  refine AnyG.pure (i := 4) (oi := ?oim4) (v := ?vm4) ?him4 (by kernel_rfl) (by kernel_rfl) (by kernel_rfl) (by kernel_rfl) ?hQm4 (Or.inl ⟨?hwm4, ?hym4⟩) (fun _ => hS0) ?hrm4
  case him4 => (simp only [List.getElem?_toArray, List.getElem?_cons_succ, List.getElem?_cons_zero]; first | done | rfl)
  case hwm4 => rfl
  case hym4 => (intro w9 hSw; (try dsimp only at hSw); go_simp; try with_reducible rfl)
  case hQm4 => exact fun _ _ _ h => h
  try simp only [Act.put, List.setIfInBounds_toArray, List.set_cons_zero, List.set_cons_succ]
  refine AnyG.pure (i := 5) (oi := ?oim5) (v := ?vm5) ?him5 (by kernel_rfl) (by kernel_rfl) (by kernel_rfl) (by kernel_rfl) ?hQm5 (Or.inl ⟨?hwm5, ?hym5⟩) (fun _ => hS0) ?hrm5
  case him5 => (simp only [List.getElem?_toArray, List.getElem?_cons_succ, List.getElem?_cons_zero]; first | done | rfl)
  case hwm5 => rfl
  case hym5 => (intro w9 hSw; (try dsimp only at hSw); go_simp; try with_reducible rfl)
  case hQm5 => exact fun _ _ _ h => h
  try simp only [Act.put, List.setIfInBounds_toArray, List.set_cons_zero, List.set_cons_succ]
  refine AnyG.pure (i := 6) (oi := ?oim6) (v := ?vm6) ?him6 (by kernel_rfl) (by kernel_rfl) (by kernel_rfl) (by kernel_rfl) ?hQm6 (Or.inl ⟨?hwm6, ?hym6⟩) (fun _ => hS0) ?hrm6
  case him6 => (simp only [List.getElem?_toArray, List.getElem?_cons_succ, List.getElem?_cons_zero]; first | done | rfl)
  case hwm6 => rfl
  case hym6 => (intro w9 hSw; (try dsimp only at hSw); go_simp; try with_reducible rfl)
  case hQm6 => exact fun _ _ _ h => h
  try simp only [Act.put, List.setIfInBounds_toArray, List.set_cons_zero, List.set_cons_succ]
  refine AnyG.pure (i := 7) (oi := ?oim7) (v := ?vm7) ?him7 (by kernel_rfl) (by kernel_rfl) (by kernel_rfl) (by kernel_rfl) ?hQm7 (Or.inl ⟨?hwm7, ?hym7⟩) (fun _ => hS0) ?hrm7
  case him7 => (simp only [List.getElem?_toArray, List.getElem?_cons_succ, List.getElem?_cons_zero]; first | done | rfl)
  case hwm7 => rfl
  case hym7 => (intro w9 hSw; (try dsimp only at hSw); go_simp; try with_reducible rfl)
  case hQm7 => exact fun _ _ _ h => h
  try simp only [Act.put, List.setIfInBounds_toArray, List.set_cons_zero, List.set_cons_succ]
  refine AnyG.read (i := 8) (oi := ?oim8) (v := ?vm8) ?him8 (by kernel_rfl) (by kernel_rfl) (by kernel_rfl) (by kernel_rfl) (by kernel_rfl) ?hQm8 (Or.inl ⟨?hwm8, ?hym8⟩) hS0 ?hrm8
  case him8 => (simp only [List.getElem?_toArray, List.getElem?_cons_succ, List.getElem?_cons_zero]; first | done | rfl)
  case hwm8 => rfl
  case hym8 => (intro w9 hSw; (try dsimp only at hSw); go_simp; try with_reducible rfl)
  case hQm8 => exact fun _ _ _ h => h
  try simp only [Act.put, List.setIfInBounds_toArray, List.set_cons_zero, List.set_cons_succ]
  refine AnyG.pure (i := 9) (oi := ?oim9) (v := ?vm9) ?him9 (by kernel_rfl) (by kernel_rfl) (by kernel_rfl) (by kernel_rfl) ?hQm9 (Or.inl ⟨?hwm9, ?hym9⟩) (fun _ => hS0) ?hrm9
  case him9 => (simp only [List.getElem?_toArray, List.getElem?_cons_succ, List.getElem?_cons_zero]; first | done | rfl)
  case hwm9 => rfl
  case hym9 => (intro w9 hSw; (try dsimp only at hSw); go_simp; try with_reducible rfl)
  case hQm9 => exact fun _ _ _ h => h
  try simp only [Act.put, List.setIfInBounds_toArray, List.set_cons_zero, List.set_cons_succ]
  refine AnyG.pure (i := 10) (oi := ?oim10) (v := ?vm10) ?him10 (by kernel_rfl) (by kernel_rfl) (by kernel_rfl) (by kernel_rfl) ?hQm10 (Or.inl ⟨?hwm10, ?hym10⟩) (fun _ => hS0) ?hrm10
  case him10 => (simp only [List.getElem?_toArray, List.getElem?_cons_succ, List.getElem?_cons_zero]; first | done | rfl)
  case hwm10 => rfl
  case hym10 => (intro w9 hSw; (try dsimp only at hSw); go_simp; try with_reducible rfl)
  case hQm10 => exact fun _ _ _ h => h
  try simp only [Act.put, List.setIfInBounds_toArray, List.set_cons_zero, List.set_cons_succ]
  refine AnyG.pure (i := 11) (oi := ?oim11) (v := ?vm11) ?him11 (by kernel_rfl) (by kernel_rfl) (by kernel_rfl) (by kernel_rfl) ?hQm11 (Or.inl ⟨?hwm11, ?hym11⟩) (fun _ => hS0) ?hrm11
  case him11 => (simp only [List.getElem?_toArray, List.getElem?_cons_succ, List.getElem?_cons_zero]; first | done | rfl)
  case hwm11 => rfl
  case hym11 => (intro w9 hSw; (try dsimp only at hSw); go_simp; try with_reducible rfl)
  case hQm11 => exact fun _ _ _ h => h
  try simp only [Act.put, List.setIfInBounds_toArray, List.set_cons_zero, List.set_cons_succ]
  refine AnyG.pure (i := 12) (oi := ?oim12) (v := ?vm12) ?him12 (by kernel_rfl) (by kernel_rfl) (by kernel_rfl) (by kernel_rfl) ?hQm12 (Or.inl ⟨?hwm12, ?hym12⟩) (fun _ => hS0) ?hrm12
  case him12 => (simp only [List.getElem?_toArray, List.getElem?_cons_succ, List.getElem?_cons_zero]; first | done | rfl)
  case hwm12 => rfl
  case hym12 => (intro w9 hSw; (try dsimp only at hSw); go_simp; try with_reducible rfl)
  case hQm12 => exact fun _ _ _ h => h
  try simp only [Act.put, List.setIfInBounds_toArray, List.set_cons_zero, List.set_cons_succ]
  refine AnyG.read (i := 13) (oi := ?oim13) (v := ?vm13) ?him13 (by kernel_rfl) (by kernel_rfl) (by kernel_rfl) (by kernel_rfl) (by kernel_rfl) ?hQm13 (Or.inl ⟨?hwm13, ?hym13⟩) hS0 ?hrm13
  case him13 => (simp only [List.getElem?_toArray, List.getElem?_cons_succ, List.getElem?_cons_zero]; first | done | rfl)
  case hwm13 => rfl
  case hym13 => (intro w9 hSw; (try dsimp only at hSw); go_simp; try with_reducible rfl)
  case hQm13 => exact fun _ _ _ h => h
  try simp only [Act.put, List.setIfInBounds_toArray, List.set_cons_zero, List.set_cons_succ]
  refine AnyG.pure (i := 14) (oi := ?oim14) (v := ?vm14) ?him14 (by kernel_rfl) (by kernel_rfl) (by kernel_rfl) (by kernel_rfl) ?hQm14 (Or.inl ⟨?hwm14, ?hym14⟩) (fun _ => hS0) ?hrm14
  case him14 => (simp only [List.getElem?_toArray, List.getElem?_cons_succ, List.getElem?_cons_zero]; first | done | rfl)
  case hwm14 => rfl
  case hym14 => (intro w9 hSw; (try dsimp only at hSw); go_simp; try with_reducible rfl)
  case hQm14 => exact fun _ _ _ h => h
  try simp only [Act.put, List.setIfInBounds_toArray, List.set_cons_zero, List.set_cons_succ]
  refine AnyG.pure (i := 15) (oi := ?oim15) (v := ?vm15) ?him15 (by kernel_rfl) (by kernel_rfl) (by kernel_rfl) (by kernel_rfl) ?hQm15 (Or.inl ⟨?hwm15, ?hym15⟩) (fun _ => hS0) ?hrm15
  case him15 => (simp only [List.getElem?_toArray, List.getElem?_cons_succ, List.getElem?_cons_zero]; first | done | rfl)
  case hwm15 => rfl
  case hym15 => (intro w9 hSw; (try dsimp only at hSw); go_simp; try with_reducible rfl)
  case hQm15 => exact fun _ _ _ h => h
  try simp only [Act.put, List.setIfInBounds_toArray, List.set_cons_zero, List.set_cons_succ]
  refine AnyG.pure (i := 16) (oi := ?oim16) (v := ?vm16) ?him16 (by kernel_rfl) (by kernel_rfl) (by kernel_rfl) (by kernel_rfl) ?hQm16 (Or.inl ⟨?hwm16, ?hym16⟩) (fun _ => hS0) ?hrm16
  case him16 => (simp only [List.getElem?_toArray, List.getElem?_cons_succ, List.getElem?_cons_zero]; first | done | rfl)
  case hwm16 => rfl
  case hym16 => (intro w9 hSw; (try dsimp only at hSw); go_simp; try with_reducible rfl)
  case hQm16 => exact fun _ _ _ h => h
  try simp only [Act.put, List.setIfInBounds_toArray, List.set_cons_zero, List.set_cons_succ]
  refine AnyG.pure (i := 17) (oi := ?oim17) (v := ?vm17) ?him17 (by kernel_rfl) (by kernel_rfl) (by kernel_rfl) (by kernel_rfl) ?hQm17 (Or.inl ⟨?hwm17, ?hym17⟩) (fun _ => hS0) ?hrm17
  case him17 => (simp only [List.getElem?_toArray, List.getElem?_cons_succ, List.getElem?_cons_zero]; first | done | rfl)
  case hwm17 => rfl
  case hym17 => (intro w9 hSw; (try dsimp only at hSw); go_simp; try with_reducible rfl)
  case hQm17 => exact fun _ _ _ h => h
  try simp only [Act.put, List.setIfInBounds_toArray, List.set_cons_zero, List.set_cons_succ]
  refine AnyG.read (i := 18) (oi := ?oim18) (v := ?vm18) ?him18 (by kernel_rfl) (by kernel_rfl) (by kernel_rfl) (by kernel_rfl) (by kernel_rfl) ?hQm18 (Or.inl ⟨?hwm18, ?hym18⟩) hS0 ?hrm18
  case him18 => (simp only [List.getElem?_toArray, List.getElem?_cons_succ, List.getElem?_cons_zero]; first | done | rfl)
  case hwm18 => rfl
  case hym18 => (intro w9 hSw; (try dsimp only at hSw); go_simp; try with_reducible rfl)
  case hQm18 => exact fun _ _ _ h => h
  try simp only [Act.put, List.setIfInBounds_toArray, List.set_cons_zero, List.set_cons_succ]
  refine AnyG.pure (i := 19) (oi := ?oim19) (v := ?vm19) ?him19 (by kernel_rfl) (by kernel_rfl) (by kernel_rfl) (by kernel_rfl) ?hQm19 (Or.inl ⟨?hwm19, ?hym19⟩) (fun _ => hS0) ?hrm19
  case him19 => (simp only [List.getElem?_toArray, List.getElem?_cons_succ, List.getElem?_cons_zero]; first | done | rfl)
  case hwm19 => rfl
  case hym19 => (intro w9 hSw; (try dsimp only at hSw); go_simp; try with_reducible rfl)
  case hQm19 => exact fun _ _ _ h => h
  try simp only [Act.put, List.setIfInBounds_toArray, List.set_cons_zero, List.set_cons_succ]
  refine AnyG.pure (i := 20) (oi := ?oim20) (v := ?vm20) ?him20 (by kernel_rfl) (by kernel_rfl) (by kernel_rfl) (by kernel_rfl) ?hQm20 (Or.inl ⟨?hwm20, ?hym20⟩) (fun _ => hS0) ?hrm20
  case him20 => (simp only [List.getElem?_toArray, List.getElem?_cons_succ, List.getElem?_cons_zero]; first | done | rfl)
  case hwm20 => rfl
  case hym20 => (intro w9 hSw; (try dsimp only at hSw); go_simp; try with_reducible rfl)
  case hQm20 => exact fun _ _ _ h => h
  try simp only [Act.put, List.setIfInBounds_toArray, List.set_cons_zero, List.set_cons_succ]
  refine AnyG.pure (i := 21) (oi := ?oim21) (v := ?vm21) ?him21 (by kernel_rfl) (by kernel_rfl) (by kernel_rfl) (by kernel_rfl) ?hQm21 (Or.inl ⟨?hwm21, ?hym21⟩) (fun _ => hS0) ?hrm21
  case him21 => (simp only [List.getElem?_toArray, List.getElem?_cons_succ, List.getElem?_cons_zero]; first | done | rfl)
  case hwm21 => rfl
  case hym21 => (intro w9 hSw; (try dsimp only at hSw); go_simp; try with_reducible rfl)
  case hQm21 => exact fun _ _ _ h => h
  try simp only [Act.put, List.setIfInBounds_toArray, List.set_cons_zero, List.set_cons_succ]
  refine AnyG.pure (i := 22) (oi := ?oim22) (v := ?vm22) ?him22 (by kernel_rfl) (by kernel_rfl) (by kernel_rfl) (by kernel_rfl) ?hQm22 (Or.inl ⟨?hwm22, ?hym22⟩) (fun _ => hS0) ?hrm22
  case him22 => (simp only [List.getElem?_toArray, List.getElem?_cons_succ, List.getElem?_cons_zero]; first | done | rfl)
  case hwm22 => rfl
  case hym22 => (intro w9 hSw; (try dsimp only at hSw); go_simp; try with_reducible rfl)
  case hQm22 => exact fun _ _ _ h => h
  try simp only [Act.put, List.setIfInBounds_toArray, List.set_cons_zero, List.set_cons_succ]
  refine AnyG.read (i := 23) (oi := ?oim23) (v := ?vm23) ?him23 (by kernel_rfl) (by kernel_rfl) (by kernel_rfl) (by kernel_rfl) (by kernel_rfl) ?hQm23 (Or.inl ⟨?hwm23, ?hym23⟩) hS0 ?hrm23
  case him23 => (simp only [List.getElem?_toArray, List.getElem?_cons_succ, List.getElem?_cons_zero]; first | done | rfl)
  case hwm23 => rfl
  case hym23 => (intro w9 hSw; (try dsimp only at hSw); go_simp; try with_reducible rfl)
  case hQm23 => exact fun _ _ _ h => h
  try simp only [Act.put, List.setIfInBounds_toArray, List.set_cons_zero, List.set_cons_succ]
  refine AnyG.pure (i := 24) (oi := ?oim24) (v := ?vm24) ?him24 (by kernel_rfl) (by kernel_rfl) (by kernel_rfl) (by kernel_rfl) ?hQm24 (Or.inl ⟨?hwm24, ?hym24⟩) (fun _ => hS0) ?hrm24
  case him24 => (simp only [List.getElem?_toArray, List.getElem?_cons_succ, List.getElem?_cons_zero]; first | done | rfl)
  case hwm24 => rfl
  case hym24 => (intro w9 hSw; (try dsimp only at hSw); go_simp; try with_reducible rfl)
  case hQm24 => exact fun _ _ _ h => h
  try simp only [Act.put, List.setIfInBounds_toArray, List.set_cons_zero, List.set_cons_succ]
  refine AnyG.pure (i := 25) (oi := ?oim25) (v := ?vm25) ?him25 (by kernel_rfl) (by kernel_rfl) (by kernel_rfl) (by kernel_rfl) ?hQm25 (Or.inl ⟨?hwm25, ?hym25⟩) (fun _ => hS0) ?hrm25
  case him25 => (simp only [List.getElem?_toArray, List.getElem?_cons_succ, List.getElem?_cons_zero]; first | done | rfl)
  case hwm25 => rfl
  case hym25 => (intro w9 hSw; (try dsimp only at hSw); go_simp; try with_reducible rfl)
  case hQm25 => exact fun _ _ _ h => h
  try simp only [Act.put, List.setIfInBounds_toArray, List.set_cons_zero, List.set_cons_succ]
  refine AnyG.pure (i := 26) (oi := ?oim26) (v := ?vm26) ?him26 (by kernel_rfl) (by kernel_rfl) (by kernel_rfl) (by kernel_rfl) ?hQm26 (Or.inl ⟨?hwm26, ?hym26⟩) (fun _ => hS0) ?hrm26
  case him26 => (simp only [List.getElem?_toArray, List.getElem?_cons_succ, List.getElem?_cons_zero]; first | done | rfl)
  case hwm26 => rfl
  case hym26 => (intro w9 hSw; (try dsimp only at hSw); go_simp; try with_reducible rfl)
  case hQm26 => exact fun _ _ _ h => h
  try simp only [Act.put, List.setIfInBounds_toArray, List.set_cons_zero, List.set_cons_succ]
  refine AnyG.pure (i := 27) (oi := ?oim27) (v := ?vm27) ?him27 (by kernel_rfl) (by kernel_rfl) (by kernel_rfl) (by kernel_rfl) ?hQm27 (Or.inl ⟨?hwm27, ?hym27⟩) (fun _ => hS0) ?hrm27
  case him27 => (simp only [List.getElem?_toArray, List.getElem?_cons_succ, List.getElem?_cons_zero]; first | done | rfl)
  case hwm27 => rfl
  case hym27 => (intro w9 hSw; (try dsimp only at hSw); go_simp; try with_reducible rfl)
  case hQm27 => exact fun _ _ _ h => h
  try simp only [Act.put, List.setIfInBounds_toArray, List.set_cons_zero, List.set_cons_succ]
  refine AnyG.read (i := 28) (oi := ?oim28) (v := ?vm28) ?him28 (by kernel_rfl) (by kernel_rfl) (by kernel_rfl) (by kernel_rfl) (by kernel_rfl) ?hQm28 (Or.inl ⟨?hwm28, ?hym28⟩) hS0 ?hrm28
  case him28 => (simp only [List.getElem?_toArray, List.getElem?_cons_succ, List.getElem?_cons_zero]; first | done | rfl)
  case hwm28 => rfl
  case hym28 => (intro w9 hSw; (try dsimp only at hSw); go_simp; try with_reducible rfl)
  case hQm28 => exact fun _ _ _ h => h
  try simp only [Act.put, List.setIfInBounds_toArray, List.set_cons_zero, List.set_cons_succ]
  refine AnyG.pure (i := 29) (oi := ?oim29) (v := ?vm29) ?him29 (by kernel_rfl) (by kernel_rfl) (by kernel_rfl) (by kernel_rfl) ?hQm29 (Or.inl ⟨?hwm29, ?hym29⟩) (fun _ => hS0) ?hrm29
  case him29 => (simp only [List.getElem?_toArray, List.getElem?_cons_succ, List.getElem?_cons_zero]; first | done | rfl)
  case hwm29 => rfl
  case hym29 => (intro w9 hSw; (try dsimp only at hSw); go_simp; try with_reducible rfl)
  case hQm29 => exact fun _ _ _ h => h
  try simp only [Act.put, List.setIfInBounds_toArray, List.set_cons_zero, List.set_cons_succ]
  refine AnyG.pure (i := 30) (oi := ?oim30) (v := ?vm30) ?him30 (by kernel_rfl) (by kernel_rfl) (by kernel_rfl) (by kernel_rfl) ?hQm30 (Or.inl ⟨?hwm30, ?hym30⟩) (fun _ => hS0) ?hrm30
  case him30 => (simp only [List.getElem?_toArray, List.getElem?_cons_succ, List.getElem?_cons_zero]; first | done | rfl)
  case hwm30 => rfl
  case hym30 => (intro w9 hSw; (try dsimp only at hSw); go_simp; try with_reducible rfl)
  case hQm30 => exact fun _ _ _ h => h
  try simp only [Act.put, List.setIfInBounds_toArray, List.set_cons_zero, List.set_cons_succ]
  refine AnyG.pure (i := 31) (oi := ?oim31) (v := ?vm31) ?him31 (by kernel_rfl) (by kernel_rfl) (by kernel_rfl) (by kernel_rfl) ?hQm31 (Or.inl ⟨?hwm31, ?hym31⟩) (fun _ => hS0) ?hrm31
  case him31 => (simp only [List.getElem?_toArray, List.getElem?_cons_succ, List.getElem?_cons_zero]; first | done | rfl)
  case hwm31 => rfl
  case hym31 => (intro w9 hSw; (try dsimp only at hSw); go_simp; try with_reducible rfl)
  case hQm31 => exact fun _ _ _ h => h
  try simp only [Act.put, List.setIfInBounds_toArray, List.set_cons_zero, List.set_cons_succ]
  refine AnyG.pure (i := 32) (oi := ?oim32) (v := ?vm32) ?him32 (by kernel_rfl) (by kernel_rfl) (by kernel_rfl) (by kernel_rfl) ?hQm32 (Or.inl ⟨?hwm32, ?hym32⟩) (fun _ => hS0) ?hrm32
  case him32 => (simp only [List.getElem?_toArray, List.getElem?_cons_succ, List.getElem?_cons_zero]; first | done | rfl)
  case hwm32 => rfl
  case hym32 => (intro w9 hSw; (try dsimp only at hSw); go_simp; try with_reducible rfl)
  case hQm32 => exact fun _ _ _ h => h
  try simp only [Act.put, List.setIfInBounds_toArray, List.set_cons_zero, List.set_cons_succ]
  refine AnyG.read (i := 33) (oi := ?oim33) (v := ?vm33) ?him33 (by kernel_rfl) (by kernel_rfl) (by kernel_rfl) (by kernel_rfl) (by kernel_rfl) ?hQm33 (Or.inl ⟨?hwm33, ?hym33⟩) hS0 ?hrm33
  case him33 => (simp only [List.getElem?_toArray, List.getElem?_cons_succ, List.getElem?_cons_zero]; first | done | rfl)
  case hwm33 => rfl
  case hym33 => (intro w9 hSw; (try dsimp only at hSw); go_simp; try with_reducible rfl)
  case hQm33 => exact fun _ _ _ h => h
  try simp only [Act.put, List.setIfInBounds_toArray, List.set_cons_zero, List.set_cons_succ]
  refine AnyG.pure (i := 34) (oi := ?oim34) (v := ?vm34) ?him34 (by kernel_rfl) (by kernel_rfl) (by kernel_rfl) (by kernel_rfl) ?hQm34 (Or.inl ⟨?hwm34, ?hym34⟩) (fun _ => hS0) ?hrm34
  case him34 => (simp only [List.getElem?_toArray, List.getElem?_cons_succ, List.getElem?_cons_zero]; first | done | rfl)
  case hwm34 => rfl
  case hym34 => (intro w9 hSw; (try dsimp only at hSw); go_simp; try with_reducible rfl)
  case hQm34 => exact fun _ _ _ h => h
  try simp only [Act.put, List.setIfInBounds_toArray, List.set_cons_zero, List.set_cons_succ]
  refine AnyG.pure (i := 35) (oi := ?oim35) (v := ?vm35) ?him35 (by kernel_rfl) (by kernel_rfl) (by kernel_rfl) (by kernel_rfl) ?hQm35 (Or.inl ⟨?hwm35, ?hym35⟩) (fun _ => hS0) ?hrm35
  case him35 => (simp only [List.getElem?_toArray, List.getElem?_cons_succ, List.getElem?_cons_zero]; first | done | rfl)
  case hwm35 => rfl
  case hym35 => (intro w9 hSw; (try dsimp only at hSw); go_simp; try with_reducible rfl)
  case hQm35 => exact fun _ _ _ h => h
  try simp only [Act.put, List.setIfInBounds_toArray, List.set_cons_zero, List.set_cons_succ]
  refine AnyG.pure (i := 36) (oi := ?oim36) (v := ?vm36) ?him36 (by kernel_rfl) (by kernel_rfl) (by kernel_rfl) (by kernel_rfl) ?hQm36 (Or.inl ⟨?hwm36, ?hym36⟩) (fun _ => hS0) ?hrm36
  case him36 => (simp only [List.getElem?_toArray, List.getElem?_cons_succ, List.getElem?_cons_zero]; first | done | rfl)
  case hwm36 => rfl
  case hym36 => (intro w9 hSw; (try dsimp only at hSw); go_simp; try with_reducible rfl)
  case hQm36 => exact fun _ _ _ h => h
  try simp only [Act.put, List.setIfInBounds_toArray, List.set_cons_zero, List.set_cons_succ]
  refine AnyG.pure (i := 37) (oi := ?oim37) (v := ?vm37) ?him37 (by kernel_rfl) (by kernel_rfl) (by kernel_rfl) (by kernel_rfl) ?hQm37 (Or.inl ⟨?hwm37, ?hym37⟩) (fun _ => hS0) ?hrm37
  case him37 => (simp only [List.getElem?_toArray, List.getElem?_cons_succ, List.getElem?_cons_zero]; first | done | rfl)
  case hwm37 => rfl
  case hym37 => (intro w9 hSw; (try dsimp only at hSw); go_simp; try with_reducible rfl)
  case hQm37 => exact fun _ _ _ h => h
  try simp only [Act.put, List.setIfInBounds_toArray, List.set_cons_zero, List.set_cons_succ]
  refine AnyG.read (i := 38) (oi := ?oim38) (v := ?vm38) ?him38 (by kernel_rfl) (by kernel_rfl) (by kernel_rfl) (by kernel_rfl) (by kernel_rfl) ?hQm38 (Or.inl ⟨?hwm38, ?hym38⟩) hS0 ?hrm38
  case him38 => (simp only [List.getElem?_toArray, List.getElem?_cons_succ, List.getElem?_cons_zero]; first | done | rfl)
  case hwm38 => rfl
  case hym38 => (intro w9 hSw; (try dsimp only at hSw); go_simp; try with_reducible rfl)
  case hQm38 => exact fun _ _ _ h => h
  try simp only [Act.put, List.setIfInBounds_toArray, List.set_cons_zero, List.set_cons_succ]
  refine AnyG.pure (i := 39) (oi := ?oim39) (v := ?vm39) ?him39 (by kernel_rfl) (by kernel_rfl) (by kernel_rfl) (by kernel_rfl) ?hQm39 (Or.inl ⟨?hwm39, ?hym39⟩) (fun _ => hS0) ?hrm39
  case him39 => (simp only [List.getElem?_toArray, List.getElem?_cons_succ, List.getElem?_cons_zero]; first | done | rfl)
  case hwm39 => rfl
  case hym39 => (intro w9 hSw; (try dsimp only at hSw); go_simp; try with_reducible rfl)
  case hQm39 => exact fun _ _ _ h => h
  try simp only [Act.put, List.setIfInBounds_toArray, List.set_cons_zero, List.set_cons_succ]
  refine AnyG.pure (i := 40) (oi := ?oim40) (v := ?vm40) ?him40 (by kernel_rfl) (by kernel_rfl) (by kernel_rfl) (by kernel_rfl) ?hQm40 (Or.inl ⟨?hwm40, ?hym40⟩) (fun _ => hS0) ?hrm40
  case him40 => (simp only [List.getElem?_toArray, List.getElem?_cons_succ, List.getElem?_cons_zero]; first | done | rfl)
  case hwm40 => rfl
  case hym40 => (intro w9 hSw; (try dsimp only at hSw); go_simp; try with_reducible rfl)
  case hQm40 => exact fun _ _ _ h => h
  try simp only [Act.put, List.setIfInBounds_toArray, List.set_cons_zero, List.set_cons_succ]
  refine AnyG.pure (i := 41) (oi := ?oim41) (v := ?vm41) ?him41 (by kernel_rfl) (by kernel_rfl) (by kernel_rfl) (by kernel_rfl) ?hQm41 (Or.inl ⟨?hwm41, ?hym41⟩) (fun _ => hS0) ?hrm41
  case him41 => (simp only [List.getElem?_toArray, List.getElem?_cons_succ, List.getElem?_cons_zero]; first | done | rfl)
  case hwm41 => rfl
  case hym41 => (intro w9 hSw; (try dsimp only at hSw); go_simp; try with_reducible rfl)
  case hQm41 => exact fun _ _ _ h => h
  try simp only [Act.put, List.setIfInBounds_toArray, List.set_cons_zero, List.set_cons_succ]
  refine AnyG.pure (i := 42) (oi := ?oim42) (v := ?vm42) ?him42 (by kernel_rfl) (by kernel_rfl) (by kernel_rfl) (by kernel_rfl) ?hQm42 (Or.inl ⟨?hwm42, ?hym42⟩) (fun _ => hS0) ?hrm42
  case him42 => (simp only [List.getElem?_toArray, List.getElem?_cons_succ, List.getElem?_cons_zero]; first | done | rfl)
  case hwm42 => rfl
  case hym42 => (intro w9 hSw; (try dsimp only at hSw); go_simp; try with_reducible rfl)
  case hQm42 => exact fun _ _ _ h => h
  try simp only [Act.put, List.setIfInBounds_toArray, List.set_cons_zero, List.set_cons_succ]
  refine AnyG.read (i := 43) (oi := ?oim43) (v := ?vm43) ?him43 (by kernel_rfl) (by kernel_rfl) (by kernel_rfl) (by kernel_rfl) (by kernel_rfl) ?hQm43 (Or.inl ⟨?hwm43, ?hym43⟩) hS0 ?hrm43
  case him43 => (simp only [List.getElem?_toArray, List.getElem?_cons_succ, List.getElem?_cons_zero]; first | done | rfl)
  case hwm43 => rfl
  case hym43 => (intro w9 hSw; (try dsimp only at hSw); go_simp; try with_reducible rfl)
  case hQm43 => exact fun _ _ _ h => h
  try simp only [Act.put, List.setIfInBounds_toArray, List.set_cons_zero, List.set_cons_succ]
  refine AnyG.pure (i := 44) (oi := ?oim44) (v := ?vm44) ?him44 (by kernel_rfl) (by kernel_rfl) (by kernel_rfl) (by kernel_rfl) ?hQm44 (Or.inl ⟨?hwm44, ?hym44⟩) (fun _ => hS0) ?hrm44
  case him44 => (simp only [List.getElem?_toArray, List.getElem?_cons_succ, List.getElem?_cons_zero]; first | done | rfl)
  case hwm44 => rfl
  case hym44 => (intro w9 hSw; (try dsimp only at hSw); go_simp; try with_reducible rfl)
  case hQm44 => exact fun _ _ _ h => h
  try simp only [Act.put, List.setIfInBounds_toArray, List.set_cons_zero, List.set_cons_succ]
  refine AnyG.pure (i := 45) (oi := ?oim45) (v := ?vm45) ?him45 (by kernel_rfl) (by kernel_rfl) (by kernel_rfl) (by kernel_rfl) ?hQm45 (Or.inl ⟨?hwm45, ?hym45⟩) (fun _ => hS0) ?hrm45
  case him45 => (simp only [List.getElem?_toArray, List.getElem?_cons_succ, List.getElem?_cons_zero]; first | done | rfl)
  case hwm45 => rfl
  case hym45 => (intro w9 hSw; (try dsimp only at hSw); go_simp; try with_reducible rfl)
  case hQm45 => exact fun _ _ _ h => h
  try simp only [Act.put, List.setIfInBounds_toArray, List.set_cons_zero, List.set_cons_succ]
  refine AnyG.pure (i := 46) (oi := ?oim46) (v := ?vm46) ?him46 (by kernel_rfl) (by kernel_rfl) (by kernel_rfl) (by kernel_rfl) ?hQm46 (Or.inl ⟨?hwm46, ?hym46⟩) (fun _ => hS0) ?hrm46
  case him46 => (simp only [List.getElem?_toArray, List.getElem?_cons_succ, List.getElem?_cons_zero]; first | done | rfl)
  case hwm46 => rfl
  case hym46 => (intro w9 hSw; (try dsimp only at hSw); go_simp; try with_reducible rfl)
  case hQm46 => exact fun _ _ _ h => h
  try simp only [Act.put, List.setIfInBounds_toArray, List.set_cons_zero, List.set_cons_succ]
  refine AnyG.pure (i := 47) (oi := ?oim47) (v := ?vm47) ?him47 (by kernel_rfl) (by kernel_rfl) (by kernel_rfl) (by kernel_rfl) ?hQm47 (Or.inl ⟨?hwm47, ?hym47⟩) (fun _ => hS0) ?hrm47
  case him47 => (simp only [List.getElem?_toArray, List.getElem?_cons_succ, List.getElem?_cons_zero]; first | done | rfl)
  case hwm47 => rfl
  case hym47 => (intro w9 hSw; (try dsimp only at hSw); go_simp; try with_reducible rfl)
  case hQm47 => exact fun _ _ _ h => h
  try simp only [Act.put, List.setIfInBounds_toArray, List.set_cons_zero, List.set_cons_succ]
  refine AnyG.read (i := 48) (oi := ?oim48) (v := ?vm48) ?him48 (by kernel_rfl) (by kernel_rfl) (by kernel_rfl) (by kernel_rfl) (by kernel_rfl) ?hQm48 (Or.inl ⟨?hwm48, ?hym48⟩) hS0 ?hrm48
  case him48 => (simp only [List.getElem?_toArray, List.getElem?_cons_succ, List.getElem?_cons_zero]; first | done | rfl)
  case hwm48 => rfl
  case hym48 => (intro w9 hSw; (try dsimp only at hSw); go_simp; try with_reducible rfl)
  case hQm48 => exact fun _ _ _ h => h
  try simp only [Act.put, List.setIfInBounds_toArray, List.set_cons_zero, List.set_cons_succ]
  refine AnyG.pure (i := 49) (oi := ?oim49) (v := ?vm49) ?him49 (by kernel_rfl) (by kernel_rfl) (by kernel_rfl) (by kernel_rfl) ?hQm49 (Or.inl ⟨?hwm49, ?hym49⟩) (fun _ => hS0) ?hrm49
  case him49 => (simp only [List.getElem?_toArray, List.getElem?_cons_succ, List.getElem?_cons_zero]; first | done | rfl)
  case hwm49 => rfl
  case hym49 => (intro w9 hSw; (try dsimp only at hSw); go_simp; try with_reducible rfl)
  case hQm49 => exact fun _ _ _ h => h
  try simp only [Act.put, List.setIfInBounds_toArray, List.set_cons_zero, List.set_cons_succ]
  refine AnyG.pure (i := 50) (oi := ?oim50) (v := ?vm50) ?him50 (by kernel_rfl) (by kernel_rfl) (by kernel_rfl) (by kernel_rfl) ?hQm50 (Or.inl ⟨?hwm50, ?hym50⟩) (fun _ => hS0) ?hrm50
  case him50 => (simp only [List.getElem?_toArray, List.getElem?_cons_succ, List.getElem?_cons_zero]; first | done | rfl)
  case hwm50 => rfl
  case hym50 => (intro w9 hSw; (try dsimp only at hSw); go_simp; try with_reducible rfl)
  case hQm50 => exact fun _ _ _ h => h
  try simp only [Act.put, List.setIfInBounds_toArray, List.set_cons_zero, List.set_cons_succ]
  refine AnyG.pure (i := 51) (oi := ?oim51) (v := ?vm51) ?him51 (by kernel_rfl) (by kernel_rfl) (by kernel_rfl) (by kernel_rfl) ?hQm51 (Or.inl ⟨?hwm51, ?hym51⟩) (fun _ => hS0) ?hrm51
  case him51 => (simp only [List.getElem?_toArray, List.getElem?_cons_succ, List.getElem?_cons_zero]; first | done | rfl)
  case hwm51 => rfl
  case hym51 => (intro w9 hSw; (try dsimp only at hSw); go_simp; try with_reducible rfl)
  case hQm51 => exact fun _ _ _ h => h
  try simp only [Act.put, List.setIfInBounds_toArray, List.set_cons_zero, List.set_cons_succ]
  refine AnyG.pure (i := 52) (oi := ?oim52) (v := ?vm52) ?him52 (by kernel_rfl) (by kernel_rfl) (by kernel_rfl) (by kernel_rfl) ?hQm52 (Or.inl ⟨?hwm52, ?hym52⟩) (fun _ => hS0) ?hrm52
  case him52 => (simp only [List.getElem?_toArray, List.getElem?_cons_succ, List.getElem?_cons_zero]; first | done | rfl)
  case hwm52 => rfl
  case hym52 => (intro w9 hSw; (try dsimp only at hSw); go_simp; try with_reducible rfl)
  case hQm52 => exact fun _ _ _ h => h
  try simp only [Act.put, List.setIfInBounds_toArray, List.set_cons_zero, List.set_cons_succ]
  refine AnyG.read (i := 53) (oi := ?oim53) (v := ?vm53) ?him53 (by kernel_rfl) (by kernel_rfl) (by kernel_rfl) (by kernel_rfl) (by kernel_rfl) ?hQm53 (Or.inl ⟨?hwm53, ?hym53⟩) hS0 ?hrm53
  case him53 => (simp only [List.getElem?_toArray, List.getElem?_cons_succ, List.getElem?_cons_zero]; first | done | rfl)
  case hwm53 => rfl
  case hym53 => (intro w9 hSw; (try dsimp only at hSw); go_simp; try with_reducible rfl)
  case hQm53 => exact fun _ _ _ h => h
  try simp only [Act.put, List.setIfInBounds_toArray, List.set_cons_zero, List.set_cons_succ]
  refine AnyG.pure (i := 54) (oi := ?oim54) (v := ?vm54) ?him54 (by kernel_rfl) (by kernel_rfl) (by kernel_rfl) (by kernel_rfl) ?hQm54 (Or.inl ⟨?hwm54, ?hym54⟩) (fun _ => hS0) ?hrm54
  case him54 => (simp only [List.getElem?_toArray, List.getElem?_cons_succ, List.getElem?_cons_zero]; first | done | rfl)
  case hwm54 => rfl
  case hym54 => (intro w9 hSw; (try dsimp only at hSw); go_simp; try with_reducible rfl)
  case hQm54 => exact fun _ _ _ h => h
  try simp only [Act.put, List.setIfInBounds_toArray, List.set_cons_zero, List.set_cons_succ]
  refine AnyG.pure (i := 55) (oi := ?oim55) (v := ?vm55) ?him55 (by kernel_rfl) (by kernel_rfl) (by kernel_rfl) (by kernel_rfl) ?hQm55 (Or.inl ⟨?hwm55, ?hym55⟩) (fun _ => hS0) ?hrm55
  case him55 => (simp only [List.getElem?_toArray, List.getElem?_cons_succ, List.getElem?_cons_zero]; first | done | rfl)
  case hwm55 => rfl
  case hym55 => (intro w9 hSw; (try dsimp only at hSw); go_simp; try with_reducible rfl)
  case hQm55 => exact fun _ _ _ h => h
  try simp only [Act.put, List.setIfInBounds_toArray, List.set_cons_zero, List.set_cons_succ]
  refine AnyG.pure (i := 56) (oi := ?oim56) (v := ?vm56) ?him56 (by kernel_rfl) (by kernel_rfl) (by kernel_rfl) (by kernel_rfl) ?hQm56 (Or.inl ⟨?hwm56, ?hym56⟩) (fun _ => hS0) ?hrm56
  case him56 => (simp only [List.getElem?_toArray, List.getElem?_cons_succ, List.getElem?_cons_zero]; first | done | rfl)
  case hwm56 => rfl
  case hym56 => (intro w9 hSw; (try dsimp only at hSw); go_simp; try with_reducible rfl)
  case hQm56 => exact fun _ _ _ h => h
  try simp only [Act.put, List.setIfInBounds_toArray, List.set_cons_zero, List.set_cons_succ]
  refine AnyG.pure (i := 58) (oi := ?oim58) (v := ?vm58) ?him58 (by kernel_rfl) (by kernel_rfl) (by kernel_rfl) (by kernel_rfl) ?hQm58 (Or.inl ⟨?hwm58, ?hym58⟩) (fun _ => hS0) ?hrm58
  case him58 => (simp only [List.getElem?_toArray, List.getElem?_cons_succ, List.getElem?_cons_zero]; first | done | rfl)
  case hwm58 => rfl
  case hym58 => (intro w9 hSw; (try dsimp only at hSw); go_simp; try with_reducible rfl)
  case hQm58 => exact fun _ _ _ h => h
  try simp only [Act.put, List.setIfInBounds_toArray, List.set_cons_zero, List.set_cons_succ]
  refine AnyG.pure (i := 61) (oi := ?oim61) (v := ?vm61) ?him61 (by kernel_rfl) (by kernel_rfl) (by kernel_rfl) (by kernel_rfl) ?hQm61 (Or.inl ⟨?hwm61, ?hym61⟩) (fun _ => hS0) ?hrm61
  case him61 => (simp only [List.getElem?_toArray, List.getElem?_cons_succ, List.getElem?_cons_zero]; first | done | rfl)
  case hwm61 => rfl
  case hym61 => (intro w9 hSw; (try dsimp only at hSw); go_simp; try with_reducible rfl)
  case hQm61 => exact fun _ _ _ h => h
  try simp only [Act.put, List.setIfInBounds_toArray, List.set_cons_zero, List.set_cons_succ]
  refine AnyG.pure (i := 64) (oi := ?oim64) (v := ?vm64) ?him64 (by kernel_rfl) (by kernel_rfl) (by kernel_rfl) (by kernel_rfl) ?hQm64 (Or.inl ⟨?hwm64, ?hym64⟩) (fun _ => hS0) ?hrm64
  case him64 => (simp only [List.getElem?_toArray, List.getElem?_cons_succ, List.getElem?_cons_zero]; first | done | rfl)
  case hwm64 => rfl
  case hym64 => (intro w9 hSw; (try dsimp only at hSw); go_simp; try with_reducible rfl)
  case hQm64 => exact fun _ _ _ h => h
  try simp only [Act.put, List.setIfInBounds_toArray, List.set_cons_zero, List.set_cons_succ]
  refine AnyG.pure (i := 67) (oi := ?oim67) (v := ?vm67) ?him67 (by kernel_rfl) (by kernel_rfl) (by kernel_rfl) (by kernel_rfl) ?hQm67 (Or.inl ⟨?hwm67, ?hym67⟩) (fun _ => hS0) ?hrm67
  case him67 => (simp only [List.getElem?_toArray, List.getElem?_cons_succ, List.getElem?_cons_zero]; first | done | rfl)
  case hwm67 => rfl
  case hym67 => (intro w9 hSw; (try dsimp only at hSw); go_simp; try with_reducible rfl)
  case hQm67 => exact fun _ _ _ h => h
  try simp only [Act.put, List.setIfInBounds_toArray, List.set_cons_zero, List.set_cons_succ]
  refine AnyG.store (i := 57) (o := ?oim57) (by kernel_rfl) (by kernel_rfl) ?him57 (fun K hK => ?hrm57)
  case him57 => (simp only [List.getElem?_toArray, List.getElem?_cons_succ, List.getElem?_cons_zero]; first | done | rfl)
  go_simp
  refine hK.out _ _ ?_
  clear hK K
  try simp only [Act.put, List.setIfInBounds_toArray, List.set_cons_zero, List.set_cons_succ]
  refine AnyG.late (i := 59) (oi := ?oim59) (v := ?vm59) ?him59 (by kernel_rfl) (by kernel_rfl) (by kernel_rfl) (by kernel_rfl) ?hQm59 (Or.inl ⟨?hwm59, ?hym59⟩) (by kernel_rfl) ?hrm59
  case him59 => (simp only [List.getElem?_toArray, List.getElem?_cons_succ, List.getElem?_cons_zero]; first | done | rfl)
  case hwm59 => rfl
  case hym59 => (intro w9 hSw; (try dsimp only at hSw); go_simp; try with_reducible rfl)
  case hQm59 => exact fun _ _ _ h => h
  try simp only [Act.put, List.setIfInBounds_toArray, List.set_cons_zero, List.set_cons_succ]
  refine AnyG.store (i := 60) (o := ?oim60) (by kernel_rfl) (by kernel_rfl) ?him60 (fun K hK => ?hrm60)
  case him60 => (simp only [List.getElem?_toArray, List.getElem?_cons_succ, List.getElem?_cons_zero]; first | done | rfl)
  go_simp
  refine hK.out _ _ ?_
  clear hK K
  try simp only [Act.put, List.setIfInBounds_toArray, List.set_cons_zero, List.set_cons_succ]
  refine AnyG.late (i := 62) (oi := ?oim62) (v := ?vm62) ?him62 (by kernel_rfl) (by kernel_rfl) (by kernel_rfl) (by kernel_rfl) ?hQm62 (Or.inl ⟨?hwm62, ?hym62⟩) (by kernel_rfl) ?hrm62
  case him62 => (simp only [List.getElem?_toArray, List.getElem?_cons_succ, List.getElem?_cons_zero]; first | done | rfl)
  case hwm62 => rfl
  case hym62 => (intro w9 hSw; (try dsimp only at hSw); go_simp; try with_reducible rfl)
  case hQm62 => exact fun _ _ _ h => h
  try simp only [Act.put, List.setIfInBounds_toArray, List.set_cons_zero, List.set_cons_succ]
  refine AnyG.store (i := 63) (o := ?oim63) (by kernel_rfl) (by kernel_rfl) ?him63 (fun K hK => ?hrm63)
  case him63 => (simp only [List.getElem?_toArray, List.getElem?_cons_succ, List.getElem?_cons_zero]; first | done | rfl)
  go_simp
  refine hK.out _ _ ?_
  clear hK K
  try simp only [Act.put, List.setIfInBounds_toArray, List.set_cons_zero, List.set_cons_succ]
  refine AnyG.late (i := 65) (oi := ?oim65) (v := ?vm65) ?him65 (by kernel_rfl) (by kernel_rfl) (by kernel_rfl) (by kernel_rfl) ?hQm65 (Or.inl ⟨?hwm65, ?hym65⟩) (by kernel_rfl) ?hrm65
  case him65 => (simp only [List.getElem?_toArray, List.getElem?_cons_succ, List.getElem?_cons_zero]; first | done | rfl)
  case hwm65 => rfl
  case hym65 => (intro w9 hSw; (try dsimp only at hSw); go_simp; try with_reducible rfl)
  case hQm65 => exact fun _ _ _ h => h
  try simp only [Act.put, List.setIfInBounds_toArray, List.set_cons_zero, List.set_cons_succ]
  refine AnyG.store (i := 66) (o := ?oim66) (by kernel_rfl) (by kernel_rfl) ?him66 (fun K hK => ?hrm66)
  case him66 => (simp only [List.getElem?_toArray, List.getElem?_cons_succ, List.getElem?_cons_zero]; first | done | rfl)
  go_simp
  refine hK.out _ _ ?_
  clear hK K
  try simp only [Act.put, List.setIfInBounds_toArray, List.set_cons_zero, List.set_cons_succ]
  refine AnyG.late (i := 68) (oi := ?oim68) (v := ?vm68) ?him68 (by kernel_rfl) (by kernel_rfl) (by kernel_rfl) (by kernel_rfl) ?hQm68 (Or.inl ⟨?hwm68, ?hym68⟩) (by kernel_rfl) ?hrm68
  case him68 => (simp only [List.getElem?_toArray, List.getElem?_cons_succ, List.getElem?_cons_zero]; first | done | rfl)
  case hwm68 => rfl
  case hym68 => (intro w9 hSw; (try dsimp only at hSw); go_simp; try with_reducible rfl)
  case hQm68 => exact fun _ _ _ h => h
  try simp only [Act.put, List.setIfInBounds_toArray, List.set_cons_zero, List.set_cons_succ]
  refine AnyG.store (i := 69) (o := ?oim69) (by kernel_rfl) (by kernel_rfl) ?him69 (fun K hK => ?hrm69)
  case him69 => (simp only [List.getElem?_toArray, List.getElem?_cons_succ, List.getElem?_cons_zero]; first | done | rfl)
  go_simp
  refine hK.out _ _ ?_
  clear hK K
  try simp only [Act.put, List.setIfInBounds_toArray, List.set_cons_zero, List.set_cons_succ]
  refine AnyG.done (by kernel_rfl) ?_ _
  clear hS0
  have hst := Lib.hid (P.out.set4 (P.out.set3 (P.out.set2 (P.out.set1 (P.out.set0 (v := a0 + 9007199254740916 - b0) h.out) (v := a1 + 9007199254740988 - b1)) (v := a2 + 9007199254740988 - b2)) (v := a3 + 9007199254740988 - b3)) (v := a4 + 9007199254740988 - b4))
  have htt := Lib.hid (touch_el (i := ox + 4) (v := .int .u64 (a4 + 9007199254740988 - b4)) (touch_el (i := ox + 3) (v := .int .u64 (a3 + 9007199254740988 - b3)) (touch_el (i := ox + 2) (v := .int .u64 (a2 + 9007199254740988 - b2)) (touch_el (i := ox + 1) (v := .int .u64 (a1 + 9007199254740988 - b1)) (touch_el (i := ox) (v := .int .u64 (a0 + 9007199254740916 - b0)) (Touch.refl (fun k => k = g) w))))))
  go_wp2_with (go_at_call 81; refine (carry_drew_at P.out _ g _ hst.out hbel.out).mono ?_; rintro r w2 ⟨rfl, hh, ht⟩)
  go_end0
  exact ⟨rfl, hh, htt.out.trans' ht⟩


end Go.Proofs.Ytfnmnmjpcamkiaa
