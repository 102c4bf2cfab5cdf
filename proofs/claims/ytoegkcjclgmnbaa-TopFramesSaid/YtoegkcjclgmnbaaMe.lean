/-
  Layer 11 (mail): Encode, walked.
-/
import Derived.Test.YtoegkcjclgmnbaaMd
namespace Go.Proofs.Ytoegkcjclgmnbaa
open Go.RowKit
set_option linter.unusedVariables false
set_option linter.unusedSimpArgs false

/-- join of texts in a new row. -/
theorem join_new (w : World) (xs : List ByteArray) (n : Nat) (hn : xs.length = n) (hl : (xs.flatMap tx).length ≤ 140737488355328) (hl2 : n ≤ 140737488355328) :
    Calls Try.prog 35 #[.slice (some ⟨w.heap.size, 0, none⟩) n n] (w.alloc (.cells (xs.map Value.string).toArray 9)) fun r w' => r = .returned (.string ⟨(xs.flatMap tx).toArray⟩) ∧ Touch Nothing w w' := by
  subst hn
  have hg := heap_alloc_new w (.cells (xs.map Value.string).toArray 9)
  refine (join_any _ w.heap.size 0 xs.length xs (fun j x hx => ?_) (lt_of_heap hg) (Nat.le_refl _) hl hl2).mono fun r w' q => ⟨q.1, ((Touch.refl Nothing w).alloc _).trans' (Touch.ofBelow0 q.2)⟩
  rw [cell_at hg, Nat.zero_add, List.getElem?_toArray, List.getElem?_map, hx]
  rfl

theorem tx_mk (l : List UInt8) : tx ⟨l.toArray⟩ = l := by simp [tx]

set_option maxRecDepth 100000 in
theorem Encode_bad (w : World) (v : Value) (m : Ml) (h : MlA w v m) (hl : m.s.length ≤ 4611686018427387904) (hl2 : m.i.length ≤ 4611686018427387904) (hc : chkM m = false) :
    Calls Try.prog 22 #[v] w fun r w' => r = .returned (.tuple #[.string ⟨#[]⟩, .int .i64 110]) ∧ Touch Nothing w w' := by
  have hC := fun w' (t : Touch Nothing w w') => Check_any w' v m (h.keep t) hl hl2
  rw [hc] at hC
  obtain ⟨ps, cs, pi, ci, rfl, _, _⟩ := h
  obtain ⟨mk, mu, mq, mx, mg, ms, mi⟩ := m
  unfold mlCs at hC ⊢
  simp only [] at hC ⊢
  obtain ⟨ns, hns⟩ : ∃ n, n = ms.length := ⟨_, rfl⟩
  obtain ⟨ni, hni⟩ : ∃ n, n = mi.length := ⟨_, rfl⟩
  rw [← hns, ← hni] at hC ⊢
  have ta := Lib.hid ((Touch.refl Nothing w).alloc (.cells #[.int .i64 mk, .int .i64 mu, .int .i64 mq, .string mx, .string mg, .slice ps ns cs, .slice pi ni ci] 49))
  simp only [Bool.false_eq_true, if_false] at hC
  replace hC := Lib.hid hC
  clear hns hni hl hl2 hc
  go_enter Try.func22, Try.ntmps22
  go_wp2_with (first | (go_at_call 34; refine (hC.out _ ta.out).mono ?_; rintro r w2 ⟨rfl, t2⟩; replace t2 := ta.out.trans' t2))
  go_ret2
  exact ⟨rfl, t2⟩

set_option maxRecDepth 100000 in
set_option maxHeartbeats 1600000 in
theorem Encode_one (w : World) (v : Value) (m : Ml) (h : MlA w v m) (hl : m.s.length ≤ 4611686018427387904) (hl2 : m.i.length ≤ 4611686018427387904) (hc : chkM m = true) (hk : m.k = 1) :
    Calls Try.prog 22 #[v] w fun r w' => r = .returned (.tuple #[.string ⟨(encM m).toArray⟩, .int .i64 0]) ∧ Touch Nothing w w' := by
  have hC := fun w' (t : Touch Nothing w w') => Check_any w' v m (h.keep t) hl hl2
  rw [hc, if_pos rfl] at hC
  obtain ⟨ps, cs, pi, ci, rfl, hS, hI⟩ := h
  have hx : m.x.size = 504 := by
    unfold chkM at hc
    rw [if_pos hk] at hc
    simp at hc
    exact hc.2.1
  have he : encM m = [(⟨[bt m.k].toArray⟩ : ByteArray), m.x].flatMap tx := by
    unfold encM
    rw [if_pos hk]
    simp [tx]
  have hJ := fun w' => join_new w' [(⟨[bt m.k].toArray⟩ : ByteArray), m.x] 2 rfl (by rw [← he]; unfold encM; rw [if_pos hk]; simp [tx_len, hx]) (by decide)
  rw [← he] at hJ
  obtain ⟨E, hE⟩ : ∃ E, E = encM m := ⟨_, rfl⟩
  rw [← hE] at hJ ⊢
  obtain ⟨mk, mu, mq, mx, mg, ms, mi⟩ := m
  unfold mlCs at hC ⊢
  simp only [] at hC hJ hk ⊢
  subst hk
  obtain ⟨ns, hns⟩ : ∃ n, n = ms.length := ⟨_, rfl⟩
  obtain ⟨ni, hni⟩ : ∃ n, n = mi.length := ⟨_, rfl⟩
  rw [← hns, ← hni] at hC ⊢
  have h9 := heap_alloc_new w (.cells #[.int .i64 1, .int .i64 mu, .int .i64 mq, .string mx, .string mg, .slice ps ns cs, .slice pi ni ci] 49)
  have ta := (Touch.refl Nothing w).alloc (.cells #[.int .i64 1, .int .i64 mu, .int .i64 mq, .string mx, .string mg, .slice ps ns cs, .slice pi ni ci] 49)
  obtain ⟨W, eW⟩ : ∃ W, W = w.alloc (.cells #[.int .i64 1, .int .i64 mu, .int .i64 mq, .string mx, .string mg, .slice ps ns cs, .slice pi ni ci] 49) := ⟨_, rfl⟩
  obtain ⟨g, eg⟩ : ∃ g, g = w.heap.size := ⟨_, rfl⟩
  rw [← eW, ← eg] at h9
  rw [← eW] at ta
  simp only [List.map_cons, List.map_nil] at hJ
  replace hC := Lib.hid hC
  replace hJ := Lib.hid hJ
  clear hns hni hl hl2 hc hS hI hE he hx
  go_enter Try.func22, Try.ntmps22
  go_upto_region 1 with fail
  rw [← eW, ← eg]
  have k0 : W.cell? ⟨g, 0, none⟩ = some (.int .i64 1) := cell_at h9 0
  have k1 : W.cell? ⟨g, 1, none⟩ = some (.int .i64 mu) := cell_at h9 1
  have k2 : W.cell? ⟨g, 2, none⟩ = some (.int .i64 mq) := cell_at h9 2
  have k3 : W.cell? ⟨g, 3, none⟩ = some (.string mx) := cell_at h9 3
  have k4 : W.cell? ⟨g, 4, none⟩ = some (.string mg) := cell_at h9 4
  have k5 : W.cell? ⟨g, 5, none⟩ = some (.slice ps ns cs) := cell_at h9 5
  have k6 : W.cell? ⟨g, 6, none⟩ = some (.slice pi ni ci) := cell_at h9 6
  replace eW := Lib.hid eW
  replace eg := Lib.hid eg
  replace h9 := Lib.hid h9
  go_upto_region 4 with (first | (go_at_call 34; refine (hC.out _ ta).mono ?_; rintro r w2 ⟨rfl, t2⟩))
  have h92 := t2.heap h9.out (fun q => q)
  have t3 := ta.trans' t2
  clear k0 k1 k2 k3 k4 k5 k6 t2
  refine wp_region_list ?_
  refine l_value rfl (run_f49 0 rfl rfl (by decide)) ?_
  simp only [Act.put, List.setIfInBounds_toArray, List.set_cons_zero, List.set_cons_succ]
  refine l_value rfl (run_ld3 rfl rfl (cell_at h92 0)) ?_
  simp only [Act.put, List.setIfInBounds_toArray, List.set_cons_zero, List.set_cons_succ]
  refine l_value rfl (run_cv35 (n := 1) rfl rfl) ?_
  simp only [Act.put, List.setIfInBounds_toArray, List.set_cons_zero, List.set_cons_succ]
  refine l_value rfl (run_bs551 (b := bt 1) rfl rfl) ?_
  simp only [Act.put, List.setIfInBounds_toArray, List.set_cons_zero, List.set_cons_succ]
  refine l_value rfl (run_cv559 (n := 1) (bs := [bt 1]) rfl rfl rfl (heap_alloc_new w2 _)) ?_
  simp only [Act.put, List.setIfInBounds_toArray, List.set_cons_zero, List.set_cons_succ]
  refine l_value rfl (run_asgn (v := .string ⟨[bt 1].toArray⟩) rfl rfl) ?_
  simp only [Act.put, List.setIfInBounds_toArray, List.set_cons_zero, List.set_cons_succ]
  refine wpList_nil ?_
  have t4 := t3.alloc (.cells ([bt 1].map byteV).toArray 5)
  have h93 := ((Touch.refl Nothing w2).alloc (.cells ([bt 1].map byteV).toArray 5)).heap h92 (fun q => q)
  obtain ⟨W3, eW3⟩ : ∃ W, W = w2.alloc (.cells ([bt 1].map byteV).toArray 5) := ⟨_, rfl⟩
  rw [← eW3] at t4 h93 ⊢
  have k0 : W3.cell? ⟨g, 0, none⟩ = some (.int .i64 1) := cell_at h93 0
  have k3 : W3.cell? ⟨g, 3, none⟩ = some (.string mx) := cell_at h93 3
  clear eW3 h92 h93 t3
  replace t4 := Lib.hid t4
  obtain ⟨B, hB⟩ : ∃ B : ByteArray, B = ⟨[bt 1].toArray⟩ := ⟨_, rfl⟩
  have hJ2 := hJ.out W3
  rw [← hB] at hJ2 ⊢
  replace hJ2 := Lib.hid hJ2
  clear hJ hB
  go_wp2_with (first | (go_at_call 35; refine hJ2.out.mono ?_; rintro r w5 ⟨rfl, t5⟩; replace t5 := t4.out.trans' t5))
  go_ret2
  exact ⟨rfl, t5⟩

end Go.Proofs.Ytoegkcjclgmnbaa
