/-
  Layer 2: times. (Printed by wip/tools/mktimes.py.)
-/
import Derived.Test.YtfnmnmjpcamkiaaCl1
import Derived.Test.YtfnmnmjpcamkiaaPin
import Derived.Test.YtfnmnmjpcamkiaaLod
namespace Go.Proofs.Ytfnmnmjpcamkiaa
open Go.RowKit
set_option linter.unusedVariables false
set_option linter.unusedSimpArgs false

def zero32 : Obj := .cells #[.int .u8 0, .int .u8 0, .int .u8 0, .int .u8 0, .int .u8 0, .int .u8 0, .int .u8 0, .int .u8 0, .int .u8 0, .int .u8 0, .int .u8 0, .int .u8 0, .int .u8 0, .int .u8 0, .int .u8 0, .int .u8 0, .int .u8 0, .int .u8 0, .int .u8 0, .int .u8 0, .int .u8 0, .int .u8 0, .int .u8 0, .int .u8 0, .int .u8 0, .int .u8 0, .int .u8 0, .int .u8 0, .int .u8 0, .int .u8 0, .int .u8 0, .int .u8 0] 67

theorem encL_at (n k : Nat) : ∀ i, i < k → (encL n k)[i]? = some (UInt8.ofNat (n / 256 ^ i % 256)) := by
  induction k generalizing n with
  | zero => intro i hi; omega
  | succ k ih =>
    intro i hi
    match i with
    | 0 => simp [encL]
    | i + 1 =>
      simp only [encL, List.getElem?_cons_succ]
      rw [ih (n / 256) i (by omega), Nat.div_div_eq_div_mul, Nat.pow_succ, Nat.mul_comm]

/-- What bytesTo n 32 is, by name. -/
structure Row32 (n : Nat) (A : Array Value) : Prop where
  size : A.size = 32
  ones : A.all (·.oneCell') = true
  at_ : ∀ i, i < 32 → A[i]? = some (.int .u8 ((n / 256 ^ i % 256 : Nat) : Int))

theorem row32 (n : Nat) : Row32 n (bytesTo n 32) := by
  refine ⟨by rw [← Array.length_toList, bytesTo_all, List.length_map, encL_length], ?_, fun i hi => ?_⟩
  · refine Array.all_eq_true_iff_forall_mem.2 fun v hv => ?_
    have hv2 := Array.mem_def.1 hv
    rw [bytesTo_all] at hv2
    obtain ⟨x, _, rfl⟩ := List.mem_map.1 hv2
    rfl
  · rw [← Array.getElem?_toList, bytesTo_all, List.getElem?_map, encL_at n 32 i hi]
    show some (byteV (UInt8.ofNat (n / 256 ^ i % 256))) = _
    rw [byte_cell]

/-- A variable of 32 bytes, and what is stored there. -/
theorem store32 (w : World) (n : Nat) (A : Array Value) (h : Row32 n A) :
    ∃ w2 : World, (storeCells ⟨w.heap.size, 0, none⟩ A.toList).run Try.prog (w.alloc zero32) = .ok () w2 ∧ w2.heap[w.heap.size]? = some (.cells A 67) ∧ Touch Nothing w w2 := by
  have hr := heap_alloc_new w zero32
  have th : (w.alloc zero32).there w.heap.size 0 A.size := by
    intro j hj
    rw [Nat.zero_add, cell_blk hr j]
    rw [h.size] at hj
    refine ⟨?_, frz_blk hr j⟩
    rw [Array.getElem?_eq_getElem (by simpa using hj)]
    rfl
  have hst := run_storeCells_cells (P := Try.prog) w.heap.size 0 A.toList 0 (w.alloc zero32) (fun j hj => by simpa using (th j (by simpa using hj)).1) (fun j hj => by simpa using (th j (by simpa using hj)).2)
    (fun v hv => (Array.all_eq_true_iff_forall_mem.1 h.ones) v (by simpa using hv))
  refine ⟨_, by simpa using hst, ?_, ?_⟩
  · have := heap_setCells_all A.toList hr (by rw [Array.length_toList (xs := A), h.size]; rfl)
    simpa using this
  · exact ((Touch.refl Nothing w).alloc zero32).trans (touch_setCells _ _ A.toList 0) fun i hi q => by omega

/-- One round of the ladder, at bit n of N. -/
def ladS (at_ : El) (N n : Nat) (s : Pt × Pt × Bool) : Pt × Pt × Bool :=
  let b := N.testBit n
  let p := if s.2.2 = b then s.1 else s.2.1
  let q := if s.2.2 = b then s.2.1 else s.1
  (stepP p, stepQ at_ p q, b)

/-- The rounds from bit k - 1 down to 0. -/
def ladN (at_ : El) (N : Nat) : Nat → Pt × Pt × Bool → Pt × Pt × Bool
  | 0, s => s
  | k + 1, s => ladN at_ N k (ladS at_ N k s)

def oneE : El := ⟨1, 0, 0, 0, 0⟩

theorem oneE_fine : oneE.Fine := num_fine 1 (by decide) (by decide)
theorem zE_fine2 : zE.Fine := num_fine 0 (by decide) (by decide)

/-- Where the ladder ends. -/
def ladE (at_ : El) (N : Nat) : Pt :=
  let s := ladN at_ N 255 (⟨oneE, zE⟩, ⟨at_, oneE⟩, false)
  if s.2.2 then s.2.1 else s.1

def timesE (at_ : El) (N : Nat) : El := timE (ladE at_ N).x (invE (ladE at_ N).z)

/-- times, of two strings of 32 bytes. -/
def timesB (k u : ByteArray) : ByteArray := enc ((timesE (canE (dec u % 57896044618658097711785492504343953926634992332820282019728792003956564819968)) (clampN (decL k.data.toList))).val % PP)

theorem clamped_to (w : World) (k : ByteArray) (hk : k.size = 32) (A : Array Value) (hc : A = bytesTo (clampN (decL k.data.toList)) 32) :
    Calls Try.prog 72 #[.string k] w fun r w' => r = .returned (.agg A) ∧ Touch Nothing w w' := by
  subst hc
  exact clamped_any w k hk

theorem load_to2 (w : World) (s : ByteArray) (hs : s.size = 32) (f : El) (hf : f = canE (dec s % 57896044618658097711785492504343953926634992332820282019728792003956564819968)) :
    Calls Try.prog 58 #[.string s] w fun r w' => r = .returned (.agg #[.int .u64 f.a0, .int .u64 f.a1, .int .u64 f.a2, .int .u64 f.a3, .int .u64 f.a4]) ∧ Touch Nothing w w' := by
  subst hf
  exact Load_any w s hs

theorem inverse_to2 {ox : Nat} {K : El → Obj} (P : Pos ox K) (w : World) (g : Nat) (e v : El) (h : w.heap[g]? = some (K e)) (fe : e.Fine) (hv : v = invE e) :
    Calls Try.prog 68 #[.pointer (some ⟨g, ox, none⟩)] w fun r w' => r = .returned (.agg #[.int .u64 v.a0, .int .u64 v.a1, .int .u64 v.a2, .int .u64 v.a3, .int .u64 v.a4]) ∧ Touch Nothing w w' := by
  subst hv
  exact inverse_at P w g e h fe

set_option maxRecDepth 100000 in
theorem and1 : ∀ b : Fin 256, bits .and .u8 (b.val : Int) 1 = ((b.val % 2 : Nat) : Int) := by decide

theorem mid_bit (m b : Nat) (hb : b < 8) : m % 256 / 2 ^ b % 2 = m / 2 ^ b % 2 := by
  match b, hb with
  | 0, _ => simp only [Nat.reducePow]; omega
  | 1, _ => simp only [Nat.reducePow]; omega
  | 2, _ => simp only [Nat.reducePow]; omega
  | 3, _ => simp only [Nat.reducePow]; omega
  | 4, _ => simp only [Nat.reducePow]; omega
  | 5, _ => simp only [Nat.reducePow]; omega
  | 6, _ => simp only [Nat.reducePow]; omega
  | 7, _ => simp only [Nat.reducePow]; omega
  | b + 8, h => omega

theorem bit_at (n k : Nat) (c : Int) (hc : c = ((n / 256 ^ (k / 8) % 256 : Nat) : Int)) : (bits BinOp.and IntKind.u8 (c / 2 ^ (k % 8)) 1 == 1) = n.testBit k := by
  have h2 : c / 2 ^ (k % 8) = ((n / 256 ^ (k / 8) % 256 / 2 ^ (k % 8) : Nat) : Int) := by rw [hc]; simp
  have hlt : n / 256 ^ (k / 8) % 256 / 2 ^ (k % 8) < 256 := Nat.lt_of_le_of_lt (Nat.div_le_self _ _) (Nat.mod_lt _ (by decide))
  rw [h2, and1 ⟨_, hlt⟩]
  simp only []
  rw [mid_bit _ _ (Nat.mod_lt _ (by decide)), Nat.div_div_eq_div_mul]
  have e : 256 ^ (k / 8) * 2 ^ (k % 8) = 2 ^ k := by
    rw [show (256 : Nat) = 2 ^ 8 from rfl, ← Nat.pow_mul, ← Nat.pow_add]
    congr 1
    omega
  rw [e, Nat.testBit_eq_decide_div_mod_eq]
  by_cases h : n / 2 ^ k % 2 = 1
  · rw [h]; rfl
  · have : n / 2 ^ k % 2 = 0 := by omega
    rw [this]; rfl

theorem stepP_fine {p : Pt} (hx : p.x.Fine) (hz : p.z.Fine) : (stepP p).x.Fine ∧ (stepP p).z.Fine := by
  have hs := plusE_fine hx hz
  have hd := minE_fine hx hz
  have hss := timE_fine hs hs
  have hdd := timE_fine hd hd
  have he := minE_fine hss hdd
  exact ⟨timE_fine hss hdd, timE_fine he (plusE_fine (timE_fine (num_fine 121665 (by decide) (by decide)) he) hss)⟩

theorem stepQ_fine {u : El} {p q : Pt} (fu : u.Fine) (hx : p.x.Fine) (hz : p.z.Fine) (gx : q.x.Fine) (gz : q.z.Fine) : (stepQ u p q).x.Fine ∧ (stepQ u p q).z.Fine := by
  have da := timE_fine (minE_fine gx gz) (plusE_fine hx hz)
  have cb := timE_fine (plusE_fine gx gz) (minE_fine hx hz)
  have s := plusE_fine da cb
  have d := minE_fine da cb
  exact ⟨timE_fine s s, timE_fine (timE_fine d d) fu⟩

theorem five_keep {g : Nat} {e : El} {w w2 : World} (ht : Touch Nothing w w2) (h : (w.cell? ⟨g, 0, none⟩ = some (.int .u64 e.a0) ∧ w.cell? ⟨g, 1, none⟩ = some (.int .u64 e.a1) ∧ w.cell? ⟨g, 2, none⟩ = some (.int .u64 e.a2) ∧ w.cell? ⟨g, 3, none⟩ = some (.int .u64 e.a3) ∧ w.cell? ⟨g, 4, none⟩ = some (.int .u64 e.a4))) : (w2.cell? ⟨g, 0, none⟩ = some (.int .u64 e.a0) ∧ w2.cell? ⟨g, 1, none⟩ = some (.int .u64 e.a1) ∧ w2.cell? ⟨g, 2, none⟩ = some (.int .u64 e.a2) ∧ w2.cell? ⟨g, 3, none⟩ = some (.int .u64 e.a3) ∧ w2.cell? ⟨g, 4, none⟩ = some (.int .u64 e.a4)) :=
  ⟨ht.cell h.1 (fun q => q), ht.cell h.2.1 (fun q => q), ht.cell h.2.2.1 (fun q => q), ht.cell h.2.2.2.1 (fun q => q), ht.cell h.2.2.2.2 (fun q => q)⟩
theorem five_drew {g : Nat} {e : El} {w : World} (h : (w.cell? ⟨g, 0, none⟩ = some (.int .u64 e.a0) ∧ w.cell? ⟨g, 1, none⟩ = some (.int .u64 e.a1) ∧ w.cell? ⟨g, 2, none⟩ = some (.int .u64 e.a2) ∧ w.cell? ⟨g, 3, none⟩ = some (.int .u64 e.a3) ∧ w.cell? ⟨g, 4, none⟩ = some (.int .u64 e.a4))) : (w.drew.cell? ⟨g, 0, none⟩ = some (.int .u64 e.a0) ∧ w.drew.cell? ⟨g, 1, none⟩ = some (.int .u64 e.a1) ∧ w.drew.cell? ⟨g, 2, none⟩ = some (.int .u64 e.a2) ∧ w.drew.cell? ⟨g, 3, none⟩ = some (.int .u64 e.a3) ∧ w.drew.cell? ⟨g, 4, none⟩ = some (.int .u64 e.a4)) := h
theorem five_alloc {g : Nat} {e : El} {w : World} {o : Obj} (h : (w.cell? ⟨g, 0, none⟩ = some (.int .u64 e.a0) ∧ w.cell? ⟨g, 1, none⟩ = some (.int .u64 e.a1) ∧ w.cell? ⟨g, 2, none⟩ = some (.int .u64 e.a2) ∧ w.cell? ⟨g, 3, none⟩ = some (.int .u64 e.a3) ∧ w.cell? ⟨g, 4, none⟩ = some (.int .u64 e.a4))) : ((w.alloc o).cell? ⟨g, 0, none⟩ = some (.int .u64 e.a0) ∧ (w.alloc o).cell? ⟨g, 1, none⟩ = some (.int .u64 e.a1) ∧ (w.alloc o).cell? ⟨g, 2, none⟩ = some (.int .u64 e.a2) ∧ (w.alloc o).cell? ⟨g, 3, none⟩ = some (.int .u64 e.a3) ∧ (w.alloc o).cell? ⟨g, 4, none⟩ = some (.int .u64 e.a4)) := five_keep ((Touch.refl Nothing w).alloc o) h

theorem fin_a {W wA wB wC : World} {e : El} (tA : Touch Nothing W.drew wA) (tB : Touch Nothing wA wB) (tC : Touch Nothing (wB.alloc (ptC oneE zE)) wC) :
    ∃ g h : Nat, Value.pointer (some ⟨wB.heap.size, 0, none⟩) = Value.pointer (some ⟨g, 0, none⟩) ∧ Value.pointer (some ⟨wC.heap.size, 0, none⟩) = Value.pointer (some ⟨h, 0, none⟩) ∧ W.heap.size ≤ g ∧ W.heap.size ≤ h ∧ g ≠ h ∧ (wC.alloc (ptC e oneE)).heap[g]? = some (ptC oneE zE) ∧ (wC.alloc (ptC e oneE)).heap[h]? = some (ptC e oneE) ∧ Touch Nothing W (wC.alloc (ptC e oneE)) := by
  have hP := heap_alloc_new wB (ptC oneE zE)
  have hP2 := touch_heap1 (tC.alloc (ptC e oneE)) hP
  have l1 := lt_of_heap hP
  have l2 := tC.size
  have a1 : W.heap.size ≤ wB.heap.size := Nat.le_trans tA.size tB.size
  simp only [World.alloc, Array.size_push] at l2
  refine ⟨_, _, rfl, rfl, a1, by omega, by omega, hP2, heap_alloc_new _ _, ?_⟩
  exact (((((Touch.refl Nothing W).drew.trans' tA).trans' tB).alloc _).trans' tC).alloc _

theorem fin_b {W wA wB wC : World} {e : El} (tA : Touch Nothing W.drew wA) (tB : Touch Nothing wA wB) (tC : Touch Nothing wB wC) :
    ∃ g h : Nat, Value.pointer (some ⟨wC.heap.size, 0, none⟩) = Value.pointer (some ⟨g, 0, none⟩) ∧ Value.pointer (some ⟨wC.heap.size + 1, 0, none⟩) = Value.pointer (some ⟨h, 0, none⟩) ∧ W.heap.size ≤ g ∧ W.heap.size ≤ h ∧ g ≠ h ∧ ((wC.alloc (ptC oneE zE)).alloc (ptC e oneE)).heap[g]? = some (ptC oneE zE) ∧ ((wC.alloc (ptC oneE zE)).alloc (ptC e oneE)).heap[h]? = some (ptC e oneE) ∧ Touch Nothing W ((wC.alloc (ptC oneE zE)).alloc (ptC e oneE)) := by
  have hP := heap_alloc_new wC (ptC oneE zE)
  have hQ := heap_alloc_new (wC.alloc (ptC oneE zE)) (ptC e oneE)
  have hP2 := touch_heap1 ((Touch.refl Nothing _).alloc (ptC e oneE)) hP
  have a1 : W.heap.size ≤ wC.heap.size := Nat.le_trans tA.size (Nat.le_trans tB.size tC.size)
  refine ⟨_, _, rfl, rfl, a1, by omega, by omega, hP2, by simpa using hQ, ?_⟩
  exact (((((Touch.refl Nothing W).drew.trans' tA).trans' tB).trans' tC).alloc _).alloc _

theorem fin_c {W wA wB wC : World} {e : El} (tA : Touch Nothing W.drew wA) (tB : Touch Nothing wA wB) (tC : Touch Nothing wB wC) :
    ∃ g h : Nat, Value.pointer (some ⟨wC.heap.size + 1, 0, none⟩) = Value.pointer (some ⟨g, 0, none⟩) ∧ Value.pointer (some ⟨wC.heap.size, 0, none⟩) = Value.pointer (some ⟨h, 0, none⟩) ∧ W.heap.size ≤ g ∧ W.heap.size ≤ h ∧ g ≠ h ∧ ((wC.alloc (ptC e oneE)).alloc (ptC oneE zE)).heap[g]? = some (ptC oneE zE) ∧ ((wC.alloc (ptC e oneE)).alloc (ptC oneE zE)).heap[h]? = some (ptC e oneE) ∧ Touch Nothing W ((wC.alloc (ptC e oneE)).alloc (ptC oneE zE)) := by
  have hP := heap_alloc_new wC (ptC e oneE)
  have hQ := heap_alloc_new (wC.alloc (ptC e oneE)) (ptC oneE zE)
  have hP2 := touch_heap1 ((Touch.refl Nothing _).alloc (ptC oneE zE)) hP
  have a1 : W.heap.size ≤ wC.heap.size := Nat.le_trans tA.size (Nat.le_trans tB.size tC.size)
  refine ⟨_, _, rfl, rfl, by omega, a1, by omega, by simpa using hQ, hP2, ?_⟩
  exact (((((Touch.refl Nothing W).drew.trans' tA).trans' tB).trans' tC).alloc _).alloc _

/-- The two points of the ladder, in the blocks where they lie. -/
def Two (g h : Nat) (p q : Pt) (w : World) : Prop := w.heap[g]? = some (ptC p.x p.z) ∧ w.heap[h]? = some (ptC q.x q.z)

set_option maxRecDepth 100000 in
set_option maxHeartbeats 3200000 in
theorem times_any2 (w : World) (k u : ByteArray) (hk : k.size = 32) (hu : u.size = 32) : Calls Try.prog 69 #[.string k, .string u] w fun r w' => r = .returned (.string (timesB k u)) ∧ Touch Nothing w w' := by
  obtain ⟨at_, hat⟩ : ∃ t, t = canE (dec u % 57896044618658097711785492504343953926634992332820282019728792003956564819968) := ⟨_, rfl⟩
  obtain ⟨n, hn⟩ : ∃ n, n = clampN (decL k.data.toList) := ⟨_, rfl⟩
  obtain ⟨A, hc⟩ : ∃ A, A = bytesTo n 32 := ⟨_, rfl⟩
  have hrow : Row32 n A := by rw [hc]; exact row32 n
  have hclm := fun w => clamped_to w k hk A (by rw [← hn]; exact hc)
  have hld := fun w => load_to2 w u hu at_ hat
  unfold timesB
  rw [← hat, ← hn]
  obtain ⟨res, hres⟩ : ∃ s, s = enc ((timesE at_ n).val % PP) := ⟨_, rfl⟩
  rw [← hres]
  have hfat : at_.Fine := by
    rw [hat]
    exact canE_fine _
  clear hk hu hat hn hc
  replace hrow := Lib.hid hrow
  replace hclm := Lib.hid hclm
  replace hld := Lib.hid hld
  replace hres := Lib.hid hres
  replace hfat := Lib.hid hfat
  go_enter Try.func69, Try.ntmps69
  go_upto_region 1 with fail
  refine wp_region_list (wpList_plain rfl fun K hK => ?_)
  go_step
  go_step
  go_step
  go_step
  go_at_call 72
  refine (hclm.out _).mono ?_
  rintro r w2 ⟨rfl, ht2⟩
  obtain ⟨w3, hst, hg3, ht3⟩ := store32 w2 n A hrow.out
  unfold zero32 at hst
  have hsz := hrow.out.size
  replace hg3 := Lib.hid hg3
  replace ht2 := Lib.hid (ht2.trans' ht3)
  clear ht3
  go_upto_region 3 with (first | (go_at_call 58; refine (hld.out _).mono ?_; rintro r w4 ⟨rfl, ht4⟩))
  have hu5 := heap_alloc_new w4 (oneC 81 at_)
  have hg5 := ((Touch.refl Nothing w4).alloc (oneC 81 at_)).heap (ht4.heap hg3.out (fun q => q)) (fun q => q)
  have ht5 : Touch Nothing w (w4.alloc (oneC 81 at_)) := (ht2.out.trans' ht4).alloc _
  have l1 := lt_of_heap hg3.out
  have l2 := ht4.size
  obtain ⟨W5, e5⟩ : ∃ x : World, x = w4.alloc (oneC 81 at_) := ⟨_, rfl⟩
  rw [← e5] at hu5 hg5 ht5
  have e6 : (w4.alloc (.cells #[.int .u64 at_.a0, .int .u64 at_.a1, .int .u64 at_.a2, .int .u64 at_.a3, .int .u64 at_.a4] 81)) = W5 := e5.symm
  rw [e6]
  obtain ⟨ga, ea⟩ : ∃ x, x = w2.heap.size := ⟨_, rfl⟩
  obtain ⟨gu, eu⟩ : ∃ x, x = w4.heap.size := ⟨_, rfl⟩
  rw [← ea] at hg5 ⊢
  rw [← eu] at hu5 ⊢
  have lau : ga < gu := by omega
  have lu5 := lt_of_heap hu5
  clear e6 e5 hst hg3 ht2 ht4 l1 l2 ea eu hsz hclm hld
  obtain ⟨c0, c1, c2, c3, c4⟩ := one_cells hu5
  replace hu5 := Lib.hid hu5
  replace hg5 := Lib.hid hg5
  replace ht5 := Lib.hid ht5
  go_cut [7, 8] (fun v u wx => ∃ g h : Nat, v = .pointer (some ⟨g, 0, none⟩) ∧ u = .pointer (some ⟨h, 0, none⟩) ∧ W5.heap.size ≤ g ∧ W5.heap.size ≤ h ∧ g ≠ h ∧ wx.heap[g]? = some (ptC oneE zE) ∧ wx.heap[h]? = some (ptC at_ oneE) ∧ Touch Nothing W5 wx)
  · go_region_held3 (fun w' => (w'.cell? ⟨gu, 0, none⟩ = some (.int .u64 at_.a0) ∧ w'.cell? ⟨gu, 1, none⟩ = some (.int .u64 at_.a1) ∧ w'.cell? ⟨gu, 2, none⟩ = some (.int .u64 at_.a2) ∧ w'.cell? ⟨gu, 3, none⟩ = some (.int .u64 at_.a3) ∧ w'.cell? ⟨gu, 4, none⟩ = some (.int .u64 at_.a4)))
      (first | ((with_reducible apply five_keep htN); assumption) | ((with_reducible apply five_drew); exact ⟨c0, c1, c2, c3, c4⟩) | ((with_reducible apply five_alloc); assumption) | fail)
      (first | (go_at_call 84; refine (sml_to _ _).mono ?_; rintro r wN ⟨rfl, htN⟩))
    · (rename_i wA tA wB tB hH; clear hH; go_wp2_with fail; go_meet; exact fin_a tA tB htN)
    · (rename_i wA tA wB tB hH; clear hH; go_wp2_with fail; go_meet; exact fin_b tA tB htN)
    · (rename_i wA tA wB tB hH; clear hH; go_wp2_with fail; go_meet; exact fin_c tA tB htN)
  case rest =>
    obtain ⟨g, h, rfl, rfl, hlg, hlh, ngh, hP, hQ, htc⟩ := hcut
    obtain ⟨W6, e6⟩ : ∃ x, x = wc := ⟨_, rfl⟩
    rw [← e6] at hP hQ htc ⊢
    clear e6 wc c0 c1 c2 c3 c4
    have lg5 := lt_of_heap hg5.out
    have hu6 := Lib.hid (touch_heap1 htc hu5.out)
    have hg6 := Lib.hid (touch_heap1 htc hg5.out)
    have ht6 := Lib.hid (ht5.out.trans' htc)
    have hl6 := htc.size
    have hlw := ht5.out.size
    replace hP := Lib.hid hP
    replace hQ := Lib.hid hQ
    clear hu5 hg5 ht5 htc
    obtain ⟨fs, hfs⟩ : ∃ fs, fs = ladN at_ n 255 (⟨oneE, zE⟩, ⟨at_, oneE⟩, false) := ⟨_, rfl⟩
    replace hfs := Lib.hid hfs
    go_wp2
    go_loopw [7, 8, 9, 10] (fun pv qv sv iv wr => ∃ (k gp gq : Nat) (p q : Pt) (s : Bool), k ≤ 255 ∧ pv = .pointer (some ⟨gp, 0, none⟩) ∧ qv = .pointer (some ⟨gq, 0, none⟩) ∧ sv = .bool s ∧ iv = .int .i64 ((k : Int) - 1) ∧
      W5.heap.size ≤ gp ∧ W5.heap.size ≤ gq ∧ gp ≠ gq ∧ wr.heap[gp]? = some (ptC p.x p.z) ∧ wr.heap[gq]? = some (ptC q.x q.z) ∧ p.x.Fine ∧ p.z.Fine ∧ q.x.Fine ∧ q.z.Fine ∧ ladN at_ n k (p, q, s) = fs ∧ wr.heap[gu]? = some (oneC 81 at_) ∧ wr.heap[ga]? = some (.cells A 67) ∧ Touch Nothing w wr) (fun pv qv sv iv _ => (intOf iv + 1).toNat)
    case atStart =>
      exact ⟨255, g, h, ⟨oneE, zE⟩, ⟨at_, oneE⟩, false, by omega, rfl, rfl, rfl, rfl, hlg, hlh, ngh, hP.out, hQ.out, oneE_fine, zE_fine2, hfat.out, oneE_fine, hfs.out.symm, hu6.out, hg6.out, ht6.out⟩
    case round =>
      obtain ⟨k, gp, gq, p, q, s, hk, rfl, rfl, rfl, rfl, hlp, hlq, npq, hp, hq, fpx, fpz, fqx, fqz, hlad, hu7, hg7, ht7⟩ := hrel
      by_cases hk0 : k = 0
      · subst hk0
        cases s
        · have hR := hp
          have fRx := fpx
          have fRz := fpz
          have hres2 : res = enc ((timE p.x (invE p.z)).val % PP) := by
            rw [hres.out]
            unfold timesE ladE
            rw [← hfs.out, ← hlad]
            rfl
          obtain ⟨v, hv⟩ : ∃ v, v = invE p.z := ⟨_, rfl⟩
          rw [← hv] at hres2
          have fv : v.Fine := by rw [hv]; exact invE_fine fRz
          have hI := Lib.hid (inverse_to2 (pos_z p.x) wr gp p.z v hR fRz hv)
          replace hR := Lib.hid hR
          replace hres2 := Lib.hid hres2
          replace ht7 := Lib.hid ht7
          replace fv := Lib.hid fv
          replace fRx := Lib.hid fRx
          clear hp hq hu7 hg7 fpx fpz fqx fqz hlad hv fRz
          go_upto_region 16 with (first | (go_at_call 68; refine hI.out.mono ?_; rintro r wA ⟨rfl, tA⟩))
          have hR2 := touch_heap1 (tA.alloc (oneC 81 v)) hR.out
          have hV2 := heap_alloc_new wA (oneC 81 v)
          have hB := Lib.hid (by_at (pos_x p.z) (pos_one 81) (wA.alloc (oneC 81 v)) gp wA.heap.size p.x v hR2 hV2 fRx.out fv.out)
          have hTA := Lib.hid ((ht7.out.trans' tA).alloc (oneC 81 v))
          clear hR2 hV2 tA
          go_upto_region 17 with (first | (go_at_call 86; refine hB.out.mono ?_; rintro r wB ⟨rfl, hR3, tB⟩))
          have hT := Lib.hid (Text_at (pos_x p.z) wB gp (timE p.x v) hR3 ((timE_fine fRx.out fv.out).mono (by decide)))
          have hTB : Touch Nothing w wB := hTA.out.trans tB fun i hi q => by omega
          replace hTB := Lib.hid hTB
          clear hR3 tB
          go_wp2_with (first | (go_at_call 53; refine hT.out.mono ?_; rintro r wC ⟨rfl, tC⟩))
          go_ret
          exact ⟨by rw [hres2.out]; rfl, hTB.out.trans' tC⟩
        · have hR := hq
          have fRx := fqx
          have fRz := fqz
          have hres2 : res = enc ((timE q.x (invE q.z)).val % PP) := by
            rw [hres.out]
            unfold timesE ladE
            rw [← hfs.out, ← hlad]
            rfl
          obtain ⟨v, hv⟩ : ∃ v, v = invE q.z := ⟨_, rfl⟩
          rw [← hv] at hres2
          have fv : v.Fine := by rw [hv]; exact invE_fine fRz
          have hI := Lib.hid (inverse_to2 (pos_z q.x) wr gq q.z v hR fRz hv)
          replace hR := Lib.hid hR
          replace hres2 := Lib.hid hres2
          replace ht7 := Lib.hid ht7
          replace fv := Lib.hid fv
          replace fRx := Lib.hid fRx
          clear hp hq hu7 hg7 fpx fpz fqx fqz hlad hv fRz
          go_upto_region 16 with (first | (go_at_call 68; refine hI.out.mono ?_; rintro r wA ⟨rfl, tA⟩))
          have hR2 := touch_heap1 (tA.alloc (oneC 81 v)) hR.out
          have hV2 := heap_alloc_new wA (oneC 81 v)
          have hB := Lib.hid (by_at (pos_x q.z) (pos_one 81) (wA.alloc (oneC 81 v)) gq wA.heap.size q.x v hR2 hV2 fRx.out fv.out)
          have hTA := Lib.hid ((ht7.out.trans' tA).alloc (oneC 81 v))
          clear hR2 hV2 tA
          go_upto_region 17 with (first | (go_at_call 86; refine hB.out.mono ?_; rintro r wB ⟨rfl, hR3, tB⟩))
          have hT := Lib.hid (Text_at (pos_x q.z) wB gq (timE q.x v) hR3 ((timE_fine fRx.out fv.out).mono (by decide)))
          have hTB : Touch Nothing w wB := hTA.out.trans tB fun i hi q => by omega
          replace hTB := Lib.hid hTB
          clear hR3 tB
          go_wp2_with (first | (go_at_call 53; refine hT.out.mono ?_; rintro r wC ⟨rfl, tC⟩))
          go_ret
          exact ⟨by rw [hres2.out]; rfl, hTB.out.trans' tC⟩
      · obtain ⟨k, rfl⟩ : ∃ m, k = m + 1 := ⟨k - 1, by omega⟩
        have hcell : wr.cell? ⟨ga, k / 8, none⟩ = some (.int .u8 ((n / 256 ^ (k / 8) % 256 : Nat) : Int)) := (cell_blk hg7 (k / 8)).trans (hrow.out.at_ (k / 8) (by omega))
        obtain ⟨c, hc⟩ : ∃ c : Int, c = ((n / 256 ^ (k / 8) % 256 : Nat) : Int) := ⟨_, rfl⟩
        have hca : 0 ≤ c := by rw [hc]; exact Int.natCast_nonneg _
        have hcb : c < 256 := by rw [hc]; omega
        rw [← hc] at hcell
        rw [show (((k + 1 : Nat) : Int) - 1) = (k : Int) by omega]
        have hkk : (0 : Int) ≤ (k : Int) := by omega
        have hk31 : k / 8 < 32 := by omega
        replace hc := Lib.hid hc
        replace hp := Lib.hid hp
        replace hq := Lib.hid hq
        replace hu7 := Lib.hid hu7
        replace hg7 := Lib.hid hg7
        replace ht7 := Lib.hid ht7
        replace hlad := Lib.hid hlad
        replace fpx := Lib.hid fpx
        replace fpz := Lib.hid fpz
        replace fqx := Lib.hid fqx
        replace fqz := Lib.hid fqz
        have hbit := bit_at n k c hc.out
        obtain ⟨b, hb⟩ : ∃ b, b = n.testBit k := ⟨_, rfl⟩
        rw [← hb] at hbit
        have htb := Lib.hid hb.symm
        clear hb
        cases s <;> cases b
        · skip
          have hS := Lib.hid (step_any wr gu gp gq at_ p.x p.z q.x q.z hu7.out hp.out hq.out (by omega) (by omega) (by omega) hfat.out fpx.out fpz.out fqx.out fqz.out)
          have hl2 : ladN at_ n k (stepP p, stepQ at_ p q, false) = fs := by
            rw [← hlad.out]
            show _ = ladN at_ n k (ladS at_ n k (p, q, false))
            unfold ladS
            rw [htb.out]
            rfl
          replace hl2 := Lib.hid hl2
          go_wp2_with (first | (go_at_call 85; refine hS.out.mono ?_; rintro r wA ⟨rfl, hA, hB, tA⟩))
          have g1 := stepP_fine fpx.out fpz.out
          have g2 := stepQ_fine hfat.out fpx.out fpz.out fqx.out fqz.out
          exact ⟨⟨k, gp, gq, stepP p, stepQ at_ p q, false, by omega, rfl, rfl, rfl, rfl, by omega, by omega, by omega, hA, hB, g1.1, g1.2, g2.1, g2.2, hl2.out, tA.heap hu7.out (by omega), tA.heap hg7.out (by omega), ht7.out.trans tA fun i hi q => by omega⟩, by simp [intOf]⟩
        · skip
          have hS := Lib.hid (step_any wr gu gq gp at_ q.x q.z p.x p.z hu7.out hq.out hp.out (by omega) (by omega) (by omega) hfat.out fqx.out fqz.out fpx.out fpz.out)
          have hl2 : ladN at_ n k (stepP q, stepQ at_ q p, true) = fs := by
            rw [← hlad.out]
            show _ = ladN at_ n k (ladS at_ n k (p, q, false))
            unfold ladS
            rw [htb.out]
            rfl
          replace hl2 := Lib.hid hl2
          go_wp2_with (first | (go_at_call 85; refine hS.out.mono ?_; rintro r wA ⟨rfl, hA, hB, tA⟩))
          have g1 := stepP_fine fqx.out fqz.out
          have g2 := stepQ_fine hfat.out fqx.out fqz.out fpx.out fpz.out
          exact ⟨⟨k, gq, gp, stepP q, stepQ at_ q p, true, by omega, rfl, rfl, rfl, rfl, by omega, by omega, by omega, hA, hB, g1.1, g1.2, g2.1, g2.2, hl2.out, tA.heap hu7.out (by omega), tA.heap hg7.out (by omega), ht7.out.trans tA fun i hi q => by omega⟩, by simp [intOf]⟩
        · skip
          have hS := Lib.hid (step_any wr gu gq gp at_ q.x q.z p.x p.z hu7.out hq.out hp.out (by omega) (by omega) (by omega) hfat.out fqx.out fqz.out fpx.out fpz.out)
          have hl2 : ladN at_ n k (stepP q, stepQ at_ q p, false) = fs := by
            rw [← hlad.out]
            show _ = ladN at_ n k (ladS at_ n k (p, q, true))
            unfold ladS
            rw [htb.out]
            rfl
          replace hl2 := Lib.hid hl2
          go_wp2_with (first | (go_at_call 85; refine hS.out.mono ?_; rintro r wA ⟨rfl, hA, hB, tA⟩))
          have g1 := stepP_fine fqx.out fqz.out
          have g2 := stepQ_fine hfat.out fqx.out fqz.out fpx.out fpz.out
          exact ⟨⟨k, gq, gp, stepP q, stepQ at_ q p, false, by omega, rfl, rfl, rfl, rfl, by omega, by omega, by omega, hA, hB, g1.1, g1.2, g2.1, g2.2, hl2.out, tA.heap hu7.out (by omega), tA.heap hg7.out (by omega), ht7.out.trans tA fun i hi q => by omega⟩, by simp [intOf]⟩
        · skip
          have hS := Lib.hid (step_any wr gu gp gq at_ p.x p.z q.x q.z hu7.out hp.out hq.out (by omega) (by omega) (by omega) hfat.out fpx.out fpz.out fqx.out fqz.out)
          have hl2 : ladN at_ n k (stepP p, stepQ at_ p q, true) = fs := by
            rw [← hlad.out]
            show _ = ladN at_ n k (ladS at_ n k (p, q, true))
            unfold ladS
            rw [htb.out]
            rfl
          replace hl2 := Lib.hid hl2
          go_wp2_with (first | (go_at_call 85; refine hS.out.mono ?_; rintro r wA ⟨rfl, hA, hB, tA⟩))
          have g1 := stepP_fine fpx.out fpz.out
          have g2 := stepQ_fine hfat.out fpx.out fpz.out fqx.out fqz.out
          exact ⟨⟨k, gp, gq, stepP p, stepQ at_ p q, true, by omega, rfl, rfl, rfl, rfl, by omega, by omega, by omega, hA, hB, g1.1, g1.2, g2.1, g2.2, hl2.out, tA.heap hu7.out (by omega), tA.heap hg7.out (by omega), ht7.out.trans tA fun i hi q => by omega⟩, by simp [intOf]⟩
end Go.Proofs.Ytfnmnmjpcamkiaa

