/-
  Layer 11 (mail): Encode of the other kinds, walked. Printed by mkmh.py.
-/
import Derived.Test.YtoegkcjclgmnbaaMg
namespace Go.Proofs.Ytoegkcjclgmnbaa
open Go.RowKit
set_option linter.unusedVariables false
set_option linter.unusedSimpArgs false

set_option maxRecDepth 100000 in
set_option maxHeartbeats 3200000 in
theorem Encode_more (w : World) (v : Value) (m : Ml) (h : MlA w v m) (hl : m.s.length ≤ 4611686018427387904) (hl2 : m.i.length ≤ 4611686018427387904) (hc : chkM m = true) (hk : m.k ≠ 1) :
    Calls Try.prog 22 #[v] w fun r w' => r = .returned (.tuple #[.string ⟨(encM m).toArray⟩, .int .i64 0]) ∧ Touch Nothing w w' := by
  have hC := fun w' (t : Touch Nothing w w') => Check_any w' v m (h.keep t) hl hl2
  rw [hc, if_pos rfl] at hC
  obtain ⟨ps, cs, pi, ci, rfl, hS, hI⟩ := h
  obtain ⟨hk2, hq, hss, hii, hsl, hil, hgs, hbl⟩ := more_facts hc hk
  obtain ⟨n, hn⟩ : ∃ n, n = longM m.k := ⟨_, rfl⟩
  have hnb : n ≤ 962 := by
    rw [hn]
    rcases hk2 with h | h | h <;> rw [h] <;> decide
  have hLg := fun w' => (Long_any w' m.k n (by
    rcases hk2 with h | h | h
    · exact .inr (.inl ⟨h, by rw [hn, h]; rfl⟩)
    · exact .inr (.inr (.inl ⟨h, by rw [hn, h]; rfl⟩))
    · exact .inr (.inr (.inr ⟨h, by rw [hn, h]; rfl⟩)))).mono fun r w2 q => (⟨q.1, by rw [q.2]; exact Touch.refl _ _⟩ : r = .returned (.int .i64 (n : Int)) ∧ Touch Nothing w' w2)
  have he : encM m = bodyM m ++ List.replicate (n - (bodyM m).length) 0 := by unfold encM; rw [if_neg hk, hn]
  rw [← hn] at hbl
  obtain ⟨E, hE⟩ : ∃ E : ByteArray, E = ⟨(encM m).toArray⟩ := ⟨_, rfl⟩
  rw [← hE]
  have hbs : (⟨(bodyM m).toArray⟩ : ByteArray).size = (bodyM m).length := rfl
  have hPd := fun w' => (pad_any w' ⟨(bodyM m).toArray⟩ n (by rw [hbs]; exact hbl) (by omega)).mono fun r w2 q => (⟨by rw [q.1, hE, he, tx_mk, hbs], Touch.ofBelow0 q.2⟩ : r = .returned (.string E) ∧ Touch Nothing w' w2)
  have hfi := flat_ids m.i hii
  have hIj := fun w' (t : Touch Nothing w w') => join_sl w' pi ci m.i (hI.keep0 t) (by omega) (by omega)
  obtain ⟨IB, hIB⟩ : ∃ b : ByteArray, b = ⟨(m.i.flatMap tx).toArray⟩ := ⟨_, rfl⟩
  rw [← hIB] at hIj
  -- the head
  obtain ⟨pre, hpre⟩ : ∃ l, l = bt m.k :: bt m.u :: bt (m.q / 16777216) :: bt (m.q / 65536) :: bt (m.q / 256) :: bt m.q :: tx m.g := ⟨_, rfl⟩
  have hbody : bodyM m = pre ++ (m.s.flatMap slB ++ m.i.flatMap tx) := by rw [hpre]; rfl
  have hprel : pre.length ≤ 38 := by rw [hpre]; simp only [List.length_cons, tx_len]; omega
  have hJ3 : [(⟨[bt m.k].toArray⟩ : ByteArray), ⟨[bt m.u, bt (m.q / 16777216), bt (m.q / 65536), bt (m.q / 256), bt m.q].toArray⟩, m.g].flatMap tx = pre := by rw [hpre]; simp [tx]
  have hJ := fun w' => join_new w' [(⟨[bt m.k].toArray⟩ : ByteArray), ⟨[bt m.u, bt (m.q / 16777216), bt (m.q / 65536), bt (m.q / 256), bt m.q].toArray⟩, m.g] 3 rfl (by rw [hJ3]; omega) (by decide)
  rw [hJ3] at hJ
  have hend : (⟨(bodyM m).toArray⟩ : ByteArray) = ⟨([(⟨(pre ++ m.s.flatMap slB).toArray⟩ : ByteArray), IB].flatMap tx).toArray⟩ := by
    rw [hbody, hIB]
    simp [tx]
  have hfs := flat_slB m.s hss
  clear hc hbs hE he hJ3
  obtain ⟨mk, mu, mq, mx, mg, ms, mi⟩ := m
  unfold mlCs at hC ⊢
  simp only [] at hC hJ hk hk2 hq hss hsl hil hgs hLg hIj hend hfs hfi hl hl2 hS hI hn ⊢
  obtain ⟨S2, hS2⟩ : ∃ b : ByteArray, b = ⟨(bodyM ⟨mk, mu, mq, mx, mg, ms, mi⟩).toArray⟩ := ⟨_, rfl⟩
  rw [← hS2] at hPd hend
  obtain ⟨ns, hns⟩ : ∃ n, n = ms.length := ⟨_, rfl⟩
  obtain ⟨ni, hni⟩ : ∃ n, n = mi.length := ⟨_, rfl⟩
  rw [← hns, ← hni] at hC ⊢
  rw [← hni] at hIj
  rw [← hns] at hsl
  have h9 := heap_alloc_new w (.cells #[.int .i64 mk, .int .i64 mu, .int .i64 mq, .string mx, .string mg, .slice ps ns cs, .slice pi ni ci] 49)
  have ta := (Touch.refl Nothing w).alloc (.cells #[.int .i64 mk, .int .i64 mu, .int .i64 mq, .string mx, .string mg, .slice ps ns cs, .slice pi ni ci] 49)
  obtain ⟨W, eW⟩ : ∃ W, W = w.alloc (.cells #[.int .i64 mk, .int .i64 mu, .int .i64 mq, .string mx, .string mg, .slice ps ns cs, .slice pi ni ci] 49) := ⟨_, rfl⟩
  obtain ⟨g, eg⟩ : ∃ g, g = w.heap.size := ⟨_, rfl⟩
  rw [← eW, ← eg] at h9
  rw [← eW] at ta
  simp only [List.map_cons, List.map_nil] at hJ
  have hk1 : (mk == 1) = false := by simp [hk]
  replace hC := Lib.hid hC
  replace hJ := Lib.hid hJ
  replace hS := Lib.hid hS
  replace hLg := Lib.hid hLg
  replace hPd := Lib.hid hPd
  replace hIj := Lib.hid hIj
  replace hend := Lib.hid hend
  replace hns := Lib.hid hns
  replace hss := Lib.hid hss
  replace hfs := Lib.hid hfs
  replace hfi := Lib.hid hfi
  replace hni := Lib.hid hni
  replace hIB := Lib.hid hIB
  replace hq := Lib.hid hq
  clear hl hl2 hI hS2 hpre hbody hk2 hn hii hgs hbl
  go_enter Try.func22, Try.ntmps22
  go_upto_region 1 with fail
  rw [← eW, ← eg]
  have k0 : W.cell? ⟨g, 0, none⟩ = some (.int .i64 mk) := cell_at h9 0
  have k1 : W.cell? ⟨g, 1, none⟩ = some (.int .i64 mu) := cell_at h9 1
  have k2 : W.cell? ⟨g, 2, none⟩ = some (.int .i64 mq) := cell_at h9 2
  have k3 : W.cell? ⟨g, 3, none⟩ = some (.string mx) := cell_at h9 3
  have k4 : W.cell? ⟨g, 4, none⟩ = some (.string mg) := cell_at h9 4
  have k5 : W.cell? ⟨g, 5, none⟩ = some (.slice ps ns cs) := cell_at h9 5
  have k6 : W.cell? ⟨g, 6, none⟩ = some (.slice pi ni ci) := cell_at h9 6
  replace eW := Lib.hid eW
  replace eg := Lib.hid eg
  replace h9 := Lib.hid h9
  go_upto_region 4 with (first | (go_at_call 34; refine (hC.out _ ta).mono ?_; rintro r w2 ⟨rfl, t2⟩))
  have h92 := t2.heap h9.out (fun q => q)
  have t3 := ta.trans' t2
  clear k0 k1 k2 k3 k4 k5 k6 t2
  refine wp_region_list ?_
  refine l_value rfl (run_f49 0 rfl rfl (by decide)) ?_
  simp only [Act.put, List.setIfInBounds_toArray, List.set_cons_zero, List.set_cons_succ]
  refine l_value rfl (run_ld3 rfl rfl (cell_at h92 0)) ?_
  simp only [Act.put, List.setIfInBounds_toArray, List.set_cons_zero, List.set_cons_succ]
  refine l_value rfl (run_cv35 (n := mk) rfl rfl) ?_
  simp only [Act.put, List.setIfInBounds_toArray, List.set_cons_zero, List.set_cons_succ]
  refine l_value rfl (run_bs551 (b := bt mk) rfl rfl) ?_
  simp only [Act.put, List.setIfInBounds_toArray, List.set_cons_zero, List.set_cons_succ]
  refine l_value rfl (run_cv559 (n := 1) (bs := [bt mk]) rfl rfl rfl (heap_alloc_new w2 _)) ?_
  simp only [Act.put, List.setIfInBounds_toArray, List.set_cons_zero, List.set_cons_succ]
  refine l_value rfl (run_asgn (v := .string ⟨[bt mk].toArray⟩) rfl rfl) ?_
  simp only [Act.put, List.setIfInBounds_toArray, List.set_cons_zero, List.set_cons_succ]
  refine wpList_nil ?_
  have t4 := t3.alloc (.cells ([bt mk].map byteV).toArray 5)
  have h93 := ((Touch.refl Nothing w2).alloc (.cells ([bt mk].map byteV).toArray 5)).heap h92 (fun q => q)
  obtain ⟨W3, eW3⟩ : ∃ W, W = w2.alloc (.cells ([bt mk].map byteV).toArray 5) := ⟨_, rfl⟩
  rw [← eW3] at t4 h93 ⊢
  have k0 : W3.cell? ⟨g, 0, none⟩ = some (.int .i64 mk) := cell_at h93 0
  clear eW3 h92 t3
  go_upto_region 7 with fail
  clear k0
  refine wp_region_list ?_
  refine l_value rfl (run_f49 1 rfl rfl (by decide)) ?_
  simp only [Act.put, List.setIfInBounds_toArray, List.set_cons_zero, List.set_cons_succ]
  refine l_value rfl (run_ld3 rfl rfl (cell_at h93 1)) ?_
  simp only [Act.put, List.setIfInBounds_toArray, List.set_cons_zero, List.set_cons_succ]
  refine l_value rfl (run_cv35 (n := mu) rfl rfl) ?_
  simp only [Act.put, List.setIfInBounds_toArray, List.set_cons_zero, List.set_cons_succ]
  refine l_value rfl (run_f49 2 rfl rfl (by decide)) ?_
  simp only [Act.put, List.setIfInBounds_toArray, List.set_cons_zero, List.set_cons_succ]
  refine l_value rfl (run_ld3 rfl rfl (cell_at h93 2)) ?_
  simp only [Act.put, List.setIfInBounds_toArray, List.set_cons_zero, List.set_cons_succ]
  refine l_value rfl (run_shr (m := mq) (k := 24) (mq / 16777216) rfl rfl (by decide) rfl hq.out.1 (by have := hq.out.2; omega)) ?_
  simp only [Act.put, List.setIfInBounds_toArray, List.set_cons_zero, List.set_cons_succ]
  refine l_value rfl (run_cv35 (n := mq / 16777216) rfl rfl) ?_
  simp only [Act.put, List.setIfInBounds_toArray, List.set_cons_zero, List.set_cons_succ]
  refine l_value rfl (run_f49 2 rfl rfl (by decide)) ?_
  simp only [Act.put, List.setIfInBounds_toArray, List.set_cons_zero, List.set_cons_succ]
  refine l_value rfl (run_ld3 rfl rfl (cell_at h93 2)) ?_
  simp only [Act.put, List.setIfInBounds_toArray, List.set_cons_zero, List.set_cons_succ]
  refine l_value rfl (run_shr (m := mq) (k := 16) (mq / 65536) rfl rfl (by decide) rfl hq.out.1 (by have := hq.out.2; omega)) ?_
  simp only [Act.put, List.setIfInBounds_toArray, List.set_cons_zero, List.set_cons_succ]
  refine l_value rfl (run_cv35 (n := mq / 65536) rfl rfl) ?_
  simp only [Act.put, List.setIfInBounds_toArray, List.set_cons_zero, List.set_cons_succ]
  refine l_value rfl (run_f49 2 rfl rfl (by decide)) ?_
  simp only [Act.put, List.setIfInBounds_toArray, List.set_cons_zero, List.set_cons_succ]
  refine l_value rfl (run_ld3 rfl rfl (cell_at h93 2)) ?_
  simp only [Act.put, List.setIfInBounds_toArray, List.set_cons_zero, List.set_cons_succ]
  refine l_value rfl (run_shr (m := mq) (k := 8) (mq / 256) rfl rfl (by decide) rfl hq.out.1 (by have := hq.out.2; omega)) ?_
  simp only [Act.put, List.setIfInBounds_toArray, List.set_cons_zero, List.set_cons_succ]
  refine l_value rfl (run_cv35 (n := mq / 256) rfl rfl) ?_
  simp only [Act.put, List.setIfInBounds_toArray, List.set_cons_zero, List.set_cons_succ]
  refine l_value rfl (run_f49 2 rfl rfl (by decide)) ?_
  simp only [Act.put, List.setIfInBounds_toArray, List.set_cons_zero, List.set_cons_succ]
  refine l_value rfl (run_ld3 rfl rfl (cell_at h93 2)) ?_
  simp only [Act.put, List.setIfInBounds_toArray, List.set_cons_zero, List.set_cons_succ]
  refine l_value rfl (run_cv35 (n := mq) rfl rfl) ?_
  simp only [Act.put, List.setIfInBounds_toArray, List.set_cons_zero, List.set_cons_succ]
  refine l_value rfl (run_bs555 (b0 := bt mu) (b1 := bt (mq / 16777216)) (b2 := bt (mq / 65536)) (b3 := bt (mq / 256)) (b4 := bt mq) rfl rfl rfl rfl rfl rfl) ?_
  simp only [Act.put, List.setIfInBounds_toArray, List.set_cons_zero, List.set_cons_succ]
  refine l_value rfl (run_cv559 (n := 5) (bs := [bt mu, bt (mq / 16777216), bt (mq / 65536), bt (mq / 256), bt mq]) rfl rfl rfl (heap_alloc_new W3 _)) ?_
  simp only [Act.put, List.setIfInBounds_toArray, List.set_cons_zero, List.set_cons_succ]
  refine l_value rfl (run_asgn (v := .string ⟨[bt mu, bt (mq / 16777216), bt (mq / 65536), bt (mq / 256), bt mq].toArray⟩) rfl rfl) ?_
  simp only [Act.put, List.setIfInBounds_toArray, List.set_cons_zero, List.set_cons_succ]
  refine wpList_nil ?_
  have t5 := t4.alloc (.cells ([bt mu, bt (mq / 16777216), bt (mq / 65536), bt (mq / 256), bt mq].map byteV).toArray 5)
  have h94 := ((Touch.refl Nothing W3).alloc (.cells ([bt mu, bt (mq / 16777216), bt (mq / 65536), bt (mq / 256), bt mq].map byteV).toArray 5)).heap h93 (fun q => q)
  obtain ⟨W4, eW4⟩ : ∃ W, W = W3.alloc (.cells ([bt mu, bt (mq / 16777216), bt (mq / 65536), bt (mq / 256), bt mq].map byteV).toArray 5) := ⟨_, rfl⟩
  rw [← eW4] at t5 h94 ⊢
  clear eW4 h93 t4
  have hJ2 := hJ.out W4
  obtain ⟨B1, hB1⟩ : ∃ B : ByteArray, B = ⟨[bt mk].toArray⟩ := ⟨_, rfl⟩
  obtain ⟨B2, hB2⟩ : ∃ B : ByteArray, B = ⟨[bt mu, bt (mq / 16777216), bt (mq / 65536), bt (mq / 256), bt mq].toArray⟩ := ⟨_, rfl⟩
  rw [← hB1, ← hB2] at hJ2
  rw [← hB1, ← hB2]
  have k4 : W4.cell? ⟨g, 4, none⟩ = some (.string mg) := cell_at h94 4
  replace hJ2 := Lib.hid hJ2
  replace t5 := Lib.hid t5
  replace h94 := Lib.hid h94
  clear hJ hB1 hB2
  go_upto_region 9 with (first | (go_at_call 35; refine hJ2.out.mono ?_; rintro r w5 ⟨rfl, t6⟩))
  have h95 := t6.heap h94.out (fun q => q)
  have t7 := t5.out.trans' t6
  clear k4 t6 h94 t5 hJ2
  have k5 : w5.cell? ⟨g, 5, none⟩ = some (.slice ps ns cs) := cell_at h95 5
  replace h95 := Lib.hid h95
  go_wp2
  clear k5
  go_loopw [7, 57] (fun sv iv wr => ∃ i : Nat, i ≤ ns ∧ sv = .string ⟨(pre ++ (ms.take i).flatMap slB).toArray⟩ ∧ iv = .int .i64 (i : Int) ∧ Touch Nothing w5 wr) (fun _ iv _ => ns - (intOf iv).toNat)
  case atStart => exact ⟨0, Nat.zero_le _, by simp, rfl, Touch.refl _ _⟩
  case round =>
    obtain ⟨i, hi, rfl, rfl, ht⟩ := hrel
    by_cases hlt : i < ns
    · have hiL : i < ms.length := by rw [← hns.out]; exact hlt
      obtain ⟨gs, os, e1, hc0, hc1⟩ := (hS.out.keep (t7.trans' ht)).2 i hiL
      subst e1
      have hxs := hss.out ms[i] (List.getElem_mem _)
      have hst : (ms.take (i + 1)).flatMap slB = (ms.take i).flatMap slB ++ slB ms[i] := by rw [List.take_succ_eq_append_getElem hiL, List.flatMap_append]; simp
      have htl : ((ms.take i).flatMap slB).length ≤ 239 * i := by
        rw [flat_slB _ fun x hx => hss.out x (List.mem_of_mem_take hx), List.length_take]
        exact Nat.mul_le_mul_left _ (Nat.min_le_left _ _)
      obtain ⟨x, hx⟩ : ∃ x, x = ms[i] := ⟨_, rfl⟩
      rw [← hx] at hc0 hc1 hxs hst
      have hP1 := fun w' => (pad_any w' x.1 16 hxs.1 (by decide)).mono fun r w2 q => (⟨q.1, Touch.ofBelow0 q.2⟩ : r = .returned (.string ⟨(padl 16 x.1).toArray⟩) ∧ Touch Nothing w' w2)
      have hP2 := fun w' => (pad_any w' x.2 222 hxs.2 (by decide)).mono fun r w2 q => (⟨q.1, Touch.ofBelow0 q.2⟩ : r = .returned (.string ⟨(padl 222 x.2).toArray⟩) ∧ Touch Nothing w' w2)
      have i0 : (0 : Int) ≤ (i : Int) := by omega
      have i1 : (i : Int) < (ns : Int) := by omega
      have i2 : IntKind.i64.wrap ((i : Int) + 1) = (i : Int) + 1 := by rw [IntKind.wrap_i64]; omega
      have hs2 : (⟨(pre ++ (ms.take (i + 1)).flatMap slB).toArray⟩ : ByteArray) = ⟨([(⟨(pre ++ (ms.take i).flatMap slB).toArray⟩ : ByteArray), ⟨(padl 16 x.1).toArray⟩, ⟨[bt x.2.size].toArray⟩, ⟨(padl 222 x.2).toArray⟩].flatMap tx).toArray⟩ := by
        rw [hst]
        simp [tx, slB]
      have hlen : ([(⟨(pre ++ (ms.take i).flatMap slB).toArray⟩ : ByteArray), ⟨(padl 16 x.1).toArray⟩, ⟨[bt x.2.size].toArray⟩, ⟨(padl 222 x.2).toArray⟩].flatMap tx).length ≤ 140737488355328 := by
        have e := congrArg ByteArray.size hs2
        have e2 : ∀ l : List UInt8, (⟨l.toArray⟩ : ByteArray).size = l.length := fun _ => rfl
        rw [e2, e2] at e
        rw [← e, hst, List.length_append, List.length_append, slB_len x hxs]
        omega
      have h9b := heap_alloc_new wr (.cells #[.string x.1, .string x.2] 74)
      obtain ⟨xa, xb⟩ := x
      simp only [] at hc0 hc1 hP1 hP2 hs2 hlen h9b
      replace hx := Lib.hid hx
      replace hP1 := Lib.hid hP1
      replace hP2 := Lib.hid hP2
      replace hs2 := Lib.hid hs2
      replace hlen := Lib.hid hlen
      replace h9b := Lib.hid h9b
      clear hst htl hxs
      obtain ⟨SI, hSI⟩ : ∃ b : ByteArray, b = ⟨(pre ++ (ms.take i).flatMap slB).toArray⟩ := ⟨_, rfl⟩
      rw [← hSI] at hs2 hlen ⊢
      replace hSI := Lib.hid hSI
      go_upto_region 12 with fail
      refine slot_step _ _ SI (xa, xb) _ ⟨(padl 16 xa).toArray⟩ ⟨[bt xb.size].toArray⟩ ⟨(padl 222 xb).toArray⟩ hs2.out rfl (cell_at h9b.out 0) (cell_at h9b.out 1) hlen.out hP1.out hP2.out (fun _ _ _ d _ h => by cases d <;> exact h) ?_
      intro W6 y61 y62 y63 y64 y65 y66 y67 y68 y69 y70 y71 y72 y73 y74 y75 t8
      have t9 := (ht.alloc (.cells #[.string xa, .string xb] 74)).trans' t8
      clear h9b hP1 hP2 hs2 hlen t8 ht
      go_wp2
      exact ⟨⟨i + 1, by omega, rfl, by simp, t9⟩, by simp [intOf]; omega⟩
    · have hik : ms.take i = ms := List.take_of_length_le (by rw [← hns.out]; omega)
      rw [hik]
      have i1 : ¬ (i : Int) < (ns : Int) := by omega
      have t8 := t7.trans' ht
      have h96 := ht.heap h95.out (fun q => q)
      obtain ⟨SI, hSI⟩ : ∃ b : ByteArray, b = ⟨(pre ++ ms.flatMap slB).toArray⟩ := ⟨_, rfl⟩
      have hend2 := hend.out
      rw [← hSI] at hend2 ⊢
      have hlen : ([SI, IB].flatMap tx).length ≤ 140737488355328 := by
        have e1 : (tx SI).length = (pre ++ ms.flatMap slB).length := by rw [hSI, tx_mk]
        have e2 : (tx IB).length = (mi.flatMap tx).length := by rw [hIB.out, tx_mk]
        have e3 : ([SI, IB].flatMap tx).length = (tx SI).length + (tx IB).length := by simp
        rw [e3, e1, e2, List.length_append, hfs.out, hfi.out, ← hns.out]
        omega
      replace h96 := Lib.hid h96
      replace hend2 := Lib.hid hend2
      replace hlen := Lib.hid hlen
      clear hik hSI ht hend hfs hfi
      go_upto_region 14 with fail
      refine end_step _ g SI IB S2 E mk n (.slice pi ni ci) hend2.out (cell_at h96.out 0) (cell_at h96.out 6) hlen.out (fun w' t => hIj.out w' (t8.trans' t)) hLg.out hPd.out (fun _ _ _ d _ h => by cases d <;> exact h) ?_
      intro W7 y77 y78 y79 y80 y81 y82 y83 y84 y85 y86 t9
      have t10 := t8.trans' t9
      clear h96 hend2 hlen t9 t8
      go_wp2
      go_ret2
      exact ⟨rfl, t10⟩

end Go.Proofs.Ytoegkcjclgmnbaa
