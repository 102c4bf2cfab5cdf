/-
  Layer 1: Times, walked (printed by wip/tools/mktim.py).
-/
import Derived.Test.YtfnmnmjpcamkiaaPls
import Derived.Test.YtfnmnmjpcamkiaaWid
namespace Go.Proofs.Ytfnmnmjpcamkiaa
open Go.RowKit
set_option linter.unusedVariables false
set_option linter.unusedSimpArgs false

/-- One product more in a chain; k: how many there are. -/
theorem add_st (k : Int) (n x y h l : Int) (hn : 0 ≤ n ∧ n ≤ k * 100000000000000000000000000000000000) (hk : k ≤ 8) (hx : 0 ≤ x ∧ x < 2251799813846000) (hy : 0 ≤ y ∧ y < 42784196463074000) (hh : h = n / 18446744073709551616) (hl : l = n % 18446744073709551616) :
    ∃ h' l' : Int, h' = (n + x * y) / 18446744073709551616 ∧ l' = (n + x * y) % 18446744073709551616 ∧ (0 ≤ n + x * y ∧ n + x * y ≤ (k + 1) * 100000000000000000000000000000000000) ∧
      Hid (∀ w, Calls Try.prog 79 #[.agg #[.int .u64 h, .int .u64 l], .int .u64 x, .int .u64 y] w fun e w' => e = .returned (.agg #[.int .u64 h', .int .u64 l']) ∧ Touch Nothing w w') := by
  have hm := mulb hx.1 hx.2 hy.1 hy.2
  refine ⟨_, _, rfl, rfl, ⟨by omega, by omega⟩, Lib.hid fun w => ?_⟩
  have := add_any w n x y hn.1 ⟨hx.1, by omega⟩ ⟨hy.1, by omega⟩ (by omega)
  rw [hh, hl]
  exact this

theorem high_st (n h l : Int) (hn : 0 ≤ n ∧ n < 41538374868278621028243970633760768) (hh : h = n / 18446744073709551616) (hl : l = n % 18446744073709551616) :
    Hid (∀ w, Calls Try.prog 80 #[.agg #[.int .u64 h, .int .u64 l]] w fun e w' => e = .returned (.int .u64 (n / 2251799813685248)) ∧ Touch Nothing w w') :=
  Lib.hid fun w => by rw [hh, hl]; exact high_any w n hn.1 hn.2

/-- While Times works: the number that is written, the sums that lie in blocks. -/
structure Tm (g : Nat) (w0 : World) (L : List (Nat × Int × Int)) (w : World) (e : El) : Prop where
  el : w.heap[g]? = some (elC e)
  bx : ∀ t ∈ L, w.heap[t.1]? = some (.cells #[.int .u64 t.2.1, .int .u64 t.2.2] 74)
  ne : ∀ t ∈ L, t.1 ≠ g
  ht : Touch (fun k => k = g) w0 w

section
variable {g : Nat} {w0 w w' : World} {L : List (Nat × Int × Int)} {e : El}

theorem Tm.touch (h : Tm g w0 L w e) (ht : Touch Nothing w w') : Tm g w0 L w' e :=
  ⟨ht.heap h.el (fun q => q), fun t hm => ht.heap (h.bx t hm) (fun q => q), h.ne, h.ht.none ht⟩

theorem Tm.box (h : Tm g w0 L w e) (hi lo : Int) : Tm g w0 ((w.heap.size, hi, lo) :: L) (w.alloc (.cells #[.int .u64 hi, .int .u64 lo] 74)) e := by
  have hg := lt_of_heap h.el
  have q := h.touch ((Touch.refl Nothing w).alloc (.cells #[.int .u64 hi, .int .u64 lo] 74))
  refine ⟨q.el, fun t hm => ?_, fun t hm => ?_, q.ht⟩
  · rcases List.mem_cons.1 hm with rfl | hm
    · exact heap_alloc_new _ _
    · exact q.bx t hm
  · rcases List.mem_cons.1 hm with rfl | hm
    · show w.heap.size ≠ g; omega
    · exact h.ne t hm

theorem Tm.cells (h : Tm g w0 L w e) {x : Nat} {hi lo : Int} (hm : (x, hi, lo) ∈ L) : w.cell? ⟨x, 0, none⟩ = some (.int .u64 hi) ∧ w.cell? ⟨x, 1, none⟩ = some (.int .u64 lo) :=
  ⟨(cell_blk (h.bx _ hm) 0).trans rfl, (cell_blk (h.bx _ hm) 1).trans rfl⟩

theorem Tm.set (h : Tm g w0 L w e) {i : Nat} {v : Value} {e' : El} (he : (w.setCell ⟨g, i, none⟩ v).heap[g]? = some (elC e')) : Tm g w0 L (w.setCell ⟨g, i, none⟩ v) e' := by
  have ht : Touch (fun k => k = g) w (w.setCell ⟨g, i, none⟩ v) := touch_el (Touch.refl _ _)
  exact ⟨he, fun t hm => ht.heap (h.bx t hm) (h.ne t hm), h.ne, h.ht.trans' ht⟩
end

set_option maxRecDepth 100000 in
set_option maxHeartbeats 12800000 in
theorem Times_any (w : World) (g ga gb : Nat) (e a b : El) (h : w.heap[g]? = some (elC e)) (ha : w.heap[ga]? = some (elC a)) (hb : w.heap[gb]? = some (elC b)) (fa : a.Fine) (fb : b.Fine) :
    Calls Try.prog 51 #[.pointer (some ⟨g, 0, none⟩), .pointer (some ⟨ga, 0, none⟩), .pointer (some ⟨gb, 0, none⟩)] w fun r w' => r = .returned (.tuple #[]) ∧ w'.heap[g]? = some (elC (timE a b)) ∧ Touch (fun k => k = g) w w' := by
  have hrb := r_below fa fb
  have hpb := Lib.hid ((preE_below fa fb))
  obtain ⟨ca0, ca1, ca2, ca3, ca4⟩ := el_cells ha
  obtain ⟨cb0, cb1, cb2, cb3, cb4⟩ := el_cells hb
  obtain ⟨A0, A1, A2, A3, A4⟩ := fa
  obtain ⟨B0, B1, B2, B3, B4⟩ := fb
  obtain ⟨a0, a1, a2, a3, a4⟩ := a
  obtain ⟨b0, b1, b2, b3, b4⟩ := b
  simp only [] at ca0 ca1 ca2 ca3 ca4 cb0 cb1 cb2 cb3 cb4 A0 A1 A2 A3 A4 B0 B1 B2 B3 B4
  clear ha hb
  have wc1 := u64_in (b1 * 19) (by omega)
  have C1 : 0 ≤ b1 * 19 ∧ b1 * 19 < 42784196463074000 := by omega
  have wc2 := u64_in (b2 * 19) (by omega)
  have C2 : 0 ≤ b2 * 19 ∧ b2 * 19 < 42784196463074000 := by omega
  have wc3 := u64_in (b3 * 19) (by omega)
  have C3 : 0 ≤ b3 * 19 ∧ b3 * 19 < 42784196463074000 := by omega
  have wc4 := u64_in (b4 * 19) (by omega)
  have C4 : 0 ≤ b4 * 19 ∧ b4 * 19 < 42784196463074000 := by omega
  have D0 : 0 ≤ b0 ∧ b0 < 42784196463074000 := by omega
  have D1 : 0 ≤ b1 ∧ b1 < 42784196463074000 := by omega
  have D2 : 0 ≤ b2 ∧ b2 < 42784196463074000 := by omega
  have D3 : 0 ≤ b3 ∧ b3 < 42784196463074000 := by omega
  have D4 : 0 ≤ b4 ∧ b4 < 42784196463074000 := by omega
  obtain ⟨h00, l00, eh00, el00, bb00, K00⟩ := add_st 0 (0) a0 b0 0 0 ⟨by decide, by decide⟩ (by decide) A0 D0 rfl rfl
  obtain ⟨h01, l01, eh01, el01, bb01, K01⟩ := add_st 1 (0 + a0 * b0) a1 (b4 * 19) h00 l00 bb00 (by decide) A1 C4 eh00 el00
  obtain ⟨h02, l02, eh02, el02, bb02, K02⟩ := add_st 2 (0 + a0 * b0 + a1 * (b4 * 19)) a2 (b3 * 19) h01 l01 bb01 (by decide) A2 C3 eh01 el01
  obtain ⟨h03, l03, eh03, el03, bb03, K03⟩ := add_st 3 (0 + a0 * b0 + a1 * (b4 * 19) + a2 * (b3 * 19)) a3 (b2 * 19) h02 l02 bb02 (by decide) A3 C2 eh02 el02
  obtain ⟨h04, l04, eh04, el04, bb04, K04⟩ := add_st 4 (0 + a0 * b0 + a1 * (b4 * 19) + a2 * (b3 * 19) + a3 * (b2 * 19)) a4 (b1 * 19) h03 l03 bb03 (by decide) A4 C1 eh03 el03
  obtain ⟨R0, hR0⟩ : ∃ R, R = r0 ⟨a0, a1, a2, a3, a4⟩ ⟨b0, b1, b2, b3, b4⟩ := ⟨_, rfl⟩
  have es0 : 0 + a0 * b0 + a1 * (b4 * 19) + a2 * (b3 * 19) + a3 * (b2 * 19) + a4 * (b1 * 19) = R0 := by rw [hR0]; unfold r0; simp only []; omega
  rw [es0] at eh04 el04
  rw [← hR0] at hrb
  have Q0 := high_st R0 h04 l04 ⟨by omega, by omega⟩ eh04 el04
  obtain ⟨q0, hq0⟩ : ∃ q, q = R0 / 2251799813685248 := ⟨_, rfl⟩
  rw [← hq0] at Q0
  obtain ⟨d0, hd0⟩ : ∃ d, d = R0 % 2251799813685248 := ⟨_, rfl⟩
  have m0 : bits .and .u64 l04 2251799813685247 = d0 := by rw [mask51 _ (by omega), hd0]; omega
  obtain ⟨h10, l10, eh10, el10, bb10, K10⟩ := add_st 0 (0) a0 b1 0 0 ⟨by decide, by decide⟩ (by decide) A0 D1 rfl rfl
  obtain ⟨h11, l11, eh11, el11, bb11, K11⟩ := add_st 1 (0 + a0 * b1) a1 b0 h10 l10 bb10 (by decide) A1 D0 eh10 el10
  obtain ⟨h12, l12, eh12, el12, bb12, K12⟩ := add_st 2 (0 + a0 * b1 + a1 * b0) a2 (b4 * 19) h11 l11 bb11 (by decide) A2 C4 eh11 el11
  obtain ⟨h13, l13, eh13, el13, bb13, K13⟩ := add_st 3 (0 + a0 * b1 + a1 * b0 + a2 * (b4 * 19)) a3 (b3 * 19) h12 l12 bb12 (by decide) A3 C3 eh12 el12
  obtain ⟨h14, l14, eh14, el14, bb14, K14⟩ := add_st 4 (0 + a0 * b1 + a1 * b0 + a2 * (b4 * 19) + a3 * (b3 * 19)) a4 (b2 * 19) h13 l13 bb13 (by decide) A4 C2 eh13 el13
  obtain ⟨R1, hR1⟩ : ∃ R, R = r1 ⟨a0, a1, a2, a3, a4⟩ ⟨b0, b1, b2, b3, b4⟩ := ⟨_, rfl⟩
  have es1 : 0 + a0 * b1 + a1 * b0 + a2 * (b4 * 19) + a3 * (b3 * 19) + a4 * (b2 * 19) = R1 := by rw [hR1]; unfold r1; simp only []; omega
  rw [es1] at eh14 el14
  rw [← hR1] at hrb
  have Q1 := high_st R1 h14 l14 ⟨by omega, by omega⟩ eh14 el14
  obtain ⟨q1, hq1⟩ : ∃ q, q = R1 / 2251799813685248 := ⟨_, rfl⟩
  rw [← hq1] at Q1
  obtain ⟨d1, hd1⟩ : ∃ d, d = R1 % 2251799813685248 := ⟨_, rfl⟩
  have m1 : bits .and .u64 l14 2251799813685247 = d1 := by rw [mask51 _ (by omega), hd1]; omega
  obtain ⟨h20, l20, eh20, el20, bb20, K20⟩ := add_st 0 (0) a0 b2 0 0 ⟨by decide, by decide⟩ (by decide) A0 D2 rfl rfl
  obtain ⟨h21, l21, eh21, el21, bb21, K21⟩ := add_st 1 (0 + a0 * b2) a1 b1 h20 l20 bb20 (by decide) A1 D1 eh20 el20
  obtain ⟨h22, l22, eh22, el22, bb22, K22⟩ := add_st 2 (0 + a0 * b2 + a1 * b1) a2 b0 h21 l21 bb21 (by decide) A2 D0 eh21 el21
  obtain ⟨h23, l23, eh23, el23, bb23, K23⟩ := add_st 3 (0 + a0 * b2 + a1 * b1 + a2 * b0) a3 (b4 * 19) h22 l22 bb22 (by decide) A3 C4 eh22 el22
  obtain ⟨h24, l24, eh24, el24, bb24, K24⟩ := add_st 4 (0 + a0 * b2 + a1 * b1 + a2 * b0 + a3 * (b4 * 19)) a4 (b3 * 19) h23 l23 bb23 (by decide) A4 C3 eh23 el23
  obtain ⟨R2, hR2⟩ : ∃ R, R = r2 ⟨a0, a1, a2, a3, a4⟩ ⟨b0, b1, b2, b3, b4⟩ := ⟨_, rfl⟩
  have es2 : 0 + a0 * b2 + a1 * b1 + a2 * b0 + a3 * (b4 * 19) + a4 * (b3 * 19) = R2 := by rw [hR2]; unfold r2; simp only []; omega
  rw [es2] at eh24 el24
  rw [← hR2] at hrb
  have Q2 := high_st R2 h24 l24 ⟨by omega, by omega⟩ eh24 el24
  obtain ⟨q2, hq2⟩ : ∃ q, q = R2 / 2251799813685248 := ⟨_, rfl⟩
  rw [← hq2] at Q2
  obtain ⟨d2, hd2⟩ : ∃ d, d = R2 % 2251799813685248 := ⟨_, rfl⟩
  have m2 : bits .and .u64 l24 2251799813685247 = d2 := by rw [mask51 _ (by omega), hd2]; omega
  obtain ⟨h30, l30, eh30, el30, bb30, K30⟩ := add_st 0 (0) a0 b3 0 0 ⟨by decide, by decide⟩ (by decide) A0 D3 rfl rfl
  obtain ⟨h31, l31, eh31, el31, bb31, K31⟩ := add_st 1 (0 + a0 * b3) a1 b2 h30 l30 bb30 (by decide) A1 D2 eh30 el30
  obtain ⟨h32, l32, eh32, el32, bb32, K32⟩ := add_st 2 (0 + a0 * b3 + a1 * b2) a2 b1 h31 l31 bb31 (by decide) A2 D1 eh31 el31
  obtain ⟨h33, l33, eh33, el33, bb33, K33⟩ := add_st 3 (0 + a0 * b3 + a1 * b2 + a2 * b1) a3 b0 h32 l32 bb32 (by decide) A3 D0 eh32 el32
  obtain ⟨h34, l34, eh34, el34, bb34, K34⟩ := add_st 4 (0 + a0 * b3 + a1 * b2 + a2 * b1 + a3 * b0) a4 (b4 * 19) h33 l33 bb33 (by decide) A4 C4 eh33 el33
  obtain ⟨R3, hR3⟩ : ∃ R, R = r3 ⟨a0, a1, a2, a3, a4⟩ ⟨b0, b1, b2, b3, b4⟩ := ⟨_, rfl⟩
  have es3 : 0 + a0 * b3 + a1 * b2 + a2 * b1 + a3 * b0 + a4 * (b4 * 19) = R3 := by rw [hR3]; unfold r3; simp only []; omega
  rw [es3] at eh34 el34
  rw [← hR3] at hrb
  have Q3 := high_st R3 h34 l34 ⟨by omega, by omega⟩ eh34 el34
  obtain ⟨q3, hq3⟩ : ∃ q, q = R3 / 2251799813685248 := ⟨_, rfl⟩
  rw [← hq3] at Q3
  obtain ⟨d3, hd3⟩ : ∃ d, d = R3 % 2251799813685248 := ⟨_, rfl⟩
  have m3 : bits .and .u64 l34 2251799813685247 = d3 := by rw [mask51 _ (by omega), hd3]; omega
  obtain ⟨h40, l40, eh40, el40, bb40, K40⟩ := add_st 0 (0) a0 b4 0 0 ⟨by decide, by decide⟩ (by decide) A0 D4 rfl rfl
  obtain ⟨h41, l41, eh41, el41, bb41, K41⟩ := add_st 1 (0 + a0 * b4) a1 b3 h40 l40 bb40 (by decide) A1 D3 eh40 el40
  obtain ⟨h42, l42, eh42, el42, bb42, K42⟩ := add_st 2 (0 + a0 * b4 + a1 * b3) a2 b2 h41 l41 bb41 (by decide) A2 D2 eh41 el41
  obtain ⟨h43, l43, eh43, el43, bb43, K43⟩ := add_st 3 (0 + a0 * b4 + a1 * b3 + a2 * b2) a3 b1 h42 l42 bb42 (by decide) A3 D1 eh42 el42
  obtain ⟨h44, l44, eh44, el44, bb44, K44⟩ := add_st 4 (0 + a0 * b4 + a1 * b3 + a2 * b2 + a3 * b1) a4 b0 h43 l43 bb43 (by decide) A4 D0 eh43 el43
  obtain ⟨R4, hR4⟩ : ∃ R, R = r4 ⟨a0, a1, a2, a3, a4⟩ ⟨b0, b1, b2, b3, b4⟩ := ⟨_, rfl⟩
  have es4 : 0 + a0 * b4 + a1 * b3 + a2 * b2 + a3 * b1 + a4 * b0 = R4 := by rw [hR4]; unfold r4; simp only []; omega
  rw [es4] at eh44 el44
  rw [← hR4] at hrb
  have Q4 := high_st R4 h44 l44 ⟨by omega, by omega⟩ eh44 el44
  obtain ⟨q4, hq4⟩ : ∃ q, q = R4 / 2251799813685248 := ⟨_, rfl⟩
  rw [← hq4] at Q4
  obtain ⟨d4, hd4⟩ : ∃ d, d = R4 % 2251799813685248 := ⟨_, rfl⟩
  have m4 : bits .and .u64 l44 2251799813685247 = d4 := by rw [mask51 _ (by omega), hd4]; omega
  have v0 := u64_in (19 * q4) (by omega)
  have v1 := u64_in (d0 + 19 * q4) (by omega)
  have v2 := u64_in (d1 + q0) (by omega)
  have v3 := u64_in (d2 + q1) (by omega)
  have v4 := u64_in (d3 + q2) (by omega)
  have v5 := u64_in (d4 + q3) (by omega)
  have hpre : preE ⟨a0, a1, a2, a3, a4⟩ ⟨b0, b1, b2, b3, b4⟩ = ⟨d0 + 19 * q4, d1 + q0, d2 + q1, d3 + q2, d4 + q3⟩ := by
    unfold preE
    rw [← hR0, ← hR1, ← hR2, ← hR3, ← hR4, ← hq0, ← hq1, ← hq2, ← hq3, ← hq4, ← hd0, ← hd1, ← hd2, ← hd3, ← hd4]
  rw [hpre] at hpb
  have htim : timE ⟨a0, a1, a2, a3, a4⟩ ⟨b0, b1, b2, b3, b4⟩ = carE ⟨d0 + 19 * q4, d1 + q0, d2 + q1, d3 + q2, d4 + q3⟩ := by unfold timE; rw [hpre]
  rw [htim]
  clear hpre htim hrb A0 A1 A2 A3 A4 B0 B1 B2 B3 B4 C1 C2 C3 C4 D0 D1 D2 D3 D4
  clear eh00 el00 bb00 eh01 el01 bb01 eh02 el02 bb02 eh03 el03 bb03 eh04 el04 bb04 eh10 el10 bb10 eh11 el11 bb11 eh12 el12 bb12 eh13 el13 bb13 eh14 el14 bb14 eh20 el20 bb20 eh21 el21 bb21 eh22 el22 bb22 eh23 el23 bb23 eh24 el24 bb24 eh30 el30 bb30 eh31 el31 bb31 eh32 el32 bb32 eh33 el33 bb33 eh34 el34 bb34 eh40 el40 bb40 eh41 el41 bb41 eh42 el42 bb42 eh43 el43 bb43 eh44 el44 bb44
  clear hR0 es0 hq0 hd0 hR1 es1 hq1 hd1 hR2 es2 hq2 hd2 hR3 es3 hq3 hd3 hR4 es4 hq4 hd4
  obtain ⟨e0, e1, e2, e3, e4⟩ := e
  have o : Tm g w [] w ⟨e0, e1, e2, e3, e4⟩ := ⟨h, by simp, by simp, Touch.refl _ _⟩
  replace o := Lib.hid o
  clear h
  go_enter Try.func51, Try.ntmps51
  go_upto_region 0 with fail
  go_quiet (fail)
  rename Nat => n1
  go_upto_region 1 with fail
  go_quiet (fail)
  rename Nat => n2
  replace o := (o.out.touch ((Touch.refl Nothing w).drewN n1)).touch ((Touch.refl Nothing _).drewN n2)
  generalize (w.drewN n1).drewN n2 = V at o ⊢
  go_upto_region 4 with (first | (go_at_call_of 79 (Value.agg #[Value.int IntKind.u64 0, Value.int IntKind.u64 0]); refine (K00.out _).mono ?_; rintro e w2 ⟨rfl, ht2⟩; replace o := o.touch ht2; clear ht2) | (go_at_call_of 79 (Value.agg #[Value.int IntKind.u64 h00, Value.int IntKind.u64 l00]); refine (K01.out _).mono ?_; rintro e w2 ⟨rfl, ht2⟩; replace o := o.touch ht2; clear ht2) | (go_at_call_of 79 (Value.agg #[Value.int IntKind.u64 h01, Value.int IntKind.u64 l01]); refine (K02.out _).mono ?_; rintro e w2 ⟨rfl, ht2⟩; replace o := o.touch ht2; clear ht2) | (go_at_call_of 79 (Value.agg #[Value.int IntKind.u64 h02, Value.int IntKind.u64 l02]); refine (K03.out _).mono ?_; rintro e w2 ⟨rfl, ht2⟩; replace o := o.touch ht2; clear ht2) | (go_at_call_of 79 (Value.agg #[Value.int IntKind.u64 h03, Value.int IntKind.u64 l03]); refine (K04.out _).mono ?_; rintro e w2 ⟨rfl, ht2⟩; replace o := o.touch ht2; clear ht2))
  have ob := o.box h04 l04
  clear o
  obtain ⟨x0, hx0⟩ : ∃ x, x = w2.heap.size := ⟨_, rfl⟩
  rw [← hx0] at ob ⊢
  generalize w2.alloc (.cells #[.int .u64 h04, .int .u64 l04] 74) = V0 at ob ⊢
  have o := ob
  clear ob hx0 K00 K01 K02 K03 K04
  go_upto_region 5 with (first | (go_at_call_of 79 (Value.agg #[Value.int IntKind.u64 0, Value.int IntKind.u64 0]); refine (K10.out _).mono ?_; rintro e w2 ⟨rfl, ht2⟩; replace o := o.touch ht2; clear ht2) | (go_at_call_of 79 (Value.agg #[Value.int IntKind.u64 h10, Value.int IntKind.u64 l10]); refine (K11.out _).mono ?_; rintro e w2 ⟨rfl, ht2⟩; replace o := o.touch ht2; clear ht2) | (go_at_call_of 79 (Value.agg #[Value.int IntKind.u64 h11, Value.int IntKind.u64 l11]); refine (K12.out _).mono ?_; rintro e w2 ⟨rfl, ht2⟩; replace o := o.touch ht2; clear ht2) | (go_at_call_of 79 (Value.agg #[Value.int IntKind.u64 h12, Value.int IntKind.u64 l12]); refine (K13.out _).mono ?_; rintro e w2 ⟨rfl, ht2⟩; replace o := o.touch ht2; clear ht2) | (go_at_call_of 79 (Value.agg #[Value.int IntKind.u64 h13, Value.int IntKind.u64 l13]); refine (K14.out _).mono ?_; rintro e w2 ⟨rfl, ht2⟩; replace o := o.touch ht2; clear ht2))
  have ob := o.box h14 l14
  clear o
  obtain ⟨x1, hx1⟩ : ∃ x, x = w2.heap.size := ⟨_, rfl⟩
  rw [← hx1] at ob ⊢
  generalize w2.alloc (.cells #[.int .u64 h14, .int .u64 l14] 74) = V1 at ob ⊢
  have o := ob
  clear ob hx1 K10 K11 K12 K13 K14
  go_upto_region 6 with (first | (go_at_call_of 79 (Value.agg #[Value.int IntKind.u64 0, Value.int IntKind.u64 0]); refine (K20.out _).mono ?_; rintro e w2 ⟨rfl, ht2⟩; replace o := o.touch ht2; clear ht2) | (go_at_call_of 79 (Value.agg #[Value.int IntKind.u64 h20, Value.int IntKind.u64 l20]); refine (K21.out _).mono ?_; rintro e w2 ⟨rfl, ht2⟩; replace o := o.touch ht2; clear ht2) | (go_at_call_of 79 (Value.agg #[Value.int IntKind.u64 h21, Value.int IntKind.u64 l21]); refine (K22.out _).mono ?_; rintro e w2 ⟨rfl, ht2⟩; replace o := o.touch ht2; clear ht2) | (go_at_call_of 79 (Value.agg #[Value.int IntKind.u64 h22, Value.int IntKind.u64 l22]); refine (K23.out _).mono ?_; rintro e w2 ⟨rfl, ht2⟩; replace o := o.touch ht2; clear ht2) | (go_at_call_of 79 (Value.agg #[Value.int IntKind.u64 h23, Value.int IntKind.u64 l23]); refine (K24.out _).mono ?_; rintro e w2 ⟨rfl, ht2⟩; replace o := o.touch ht2; clear ht2))
  have ob := o.box h24 l24
  clear o
  obtain ⟨x2, hx2⟩ : ∃ x, x = w2.heap.size := ⟨_, rfl⟩
  rw [← hx2] at ob ⊢
  generalize w2.alloc (.cells #[.int .u64 h24, .int .u64 l24] 74) = V2 at ob ⊢
  have o := ob
  clear ob hx2 K20 K21 K22 K23 K24
  go_upto_region 7 with (first | (go_at_call_of 79 (Value.agg #[Value.int IntKind.u64 0, Value.int IntKind.u64 0]); refine (K30.out _).mono ?_; rintro e w2 ⟨rfl, ht2⟩; replace o := o.touch ht2; clear ht2) | (go_at_call_of 79 (Value.agg #[Value.int IntKind.u64 h30, Value.int IntKind.u64 l30]); refine (K31.out _).mono ?_; rintro e w2 ⟨rfl, ht2⟩; replace o := o.touch ht2; clear ht2) | (go_at_call_of 79 (Value.agg #[Value.int IntKind.u64 h31, Value.int IntKind.u64 l31]); refine (K32.out _).mono ?_; rintro e w2 ⟨rfl, ht2⟩; replace o := o.touch ht2; clear ht2) | (go_at_call_of 79 (Value.agg #[Value.int IntKind.u64 h32, Value.int IntKind.u64 l32]); refine (K33.out _).mono ?_; rintro e w2 ⟨rfl, ht2⟩; replace o := o.touch ht2; clear ht2) | (go_at_call_of 79 (Value.agg #[Value.int IntKind.u64 h33, Value.int IntKind.u64 l33]); refine (K34.out _).mono ?_; rintro e w2 ⟨rfl, ht2⟩; replace o := o.touch ht2; clear ht2))
  have ob := o.box h34 l34
  clear o
  obtain ⟨x3, hx3⟩ : ∃ x, x = w2.heap.size := ⟨_, rfl⟩
  rw [← hx3] at ob ⊢
  generalize w2.alloc (.cells #[.int .u64 h34, .int .u64 l34] 74) = V3 at ob ⊢
  have o := ob
  clear ob hx3 K30 K31 K32 K33 K34
  go_upto_region 8 with (first | (go_at_call_of 79 (Value.agg #[Value.int IntKind.u64 0, Value.int IntKind.u64 0]); refine (K40.out _).mono ?_; rintro e w2 ⟨rfl, ht2⟩; replace o := o.touch ht2; clear ht2) | (go_at_call_of 79 (Value.agg #[Value.int IntKind.u64 h40, Value.int IntKind.u64 l40]); refine (K41.out _).mono ?_; rintro e w2 ⟨rfl, ht2⟩; replace o := o.touch ht2; clear ht2) | (go_at_call_of 79 (Value.agg #[Value.int IntKind.u64 h41, Value.int IntKind.u64 l41]); refine (K42.out _).mono ?_; rintro e w2 ⟨rfl, ht2⟩; replace o := o.touch ht2; clear ht2) | (go_at_call_of 79 (Value.agg #[Value.int IntKind.u64 h42, Value.int IntKind.u64 l42]); refine (K43.out _).mono ?_; rintro e w2 ⟨rfl, ht2⟩; replace o := o.touch ht2; clear ht2) | (go_at_call_of 79 (Value.agg #[Value.int IntKind.u64 h43, Value.int IntKind.u64 l43]); refine (K44.out _).mono ?_; rintro e w2 ⟨rfl, ht2⟩; replace o := o.touch ht2; clear ht2))
  have ob := o.box h44 l44
  clear o
  obtain ⟨x4, hx4⟩ : ∃ x, x = w2.heap.size := ⟨_, rfl⟩
  rw [← hx4] at ob ⊢
  generalize w2.alloc (.cells #[.int .u64 h44, .int .u64 l44] 74) = V4 at ob ⊢
  have o := ob
  clear ob hx4 K40 K41 K42 K43 K44
  have cS := Lib.hid (fun w' e' (h' : Tm g w [(x4, h44, l44), (x3, h34, l34), (x2, h24, l24), (x1, h14, l14), (x0, h04, l04)] w' e') => (⟨(h'.cells (x := x0) (hi := h04) (lo := l04) (by simp)).2, (h'.cells (x := x4) (hi := h44) (lo := l44) (by simp)).1, (h'.cells (x := x4) (hi := h44) (lo := l44) (by simp)).2⟩ : (fun w9 : World => w9.cell? ⟨x0, 1, none⟩ = some (.int .u64 l04) ∧ w9.cell? ⟨x4, 0, none⟩ = some (.int .u64 h44) ∧ w9.cell? ⟨x4, 1, none⟩ = some (.int .u64 l44)) w'))
  go_upto_region 8 with fail
  go_region_held3 (fun w9 : World => w9.cell? ⟨x0, 1, none⟩ = some (.int .u64 l04) ∧ w9.cell? ⟨x4, 0, none⟩ = some (.int .u64 h44) ∧ w9.cell? ⟨x4, 1, none⟩ = some (.int .u64 l44))
    (first | assumption | exact cS.out _ _ (o.touch (Touch.refl _ _).drew) | exact cS.out _ _ o5 | exact cS.out _ _ (o5.set (el_set0 o5.el)))
    (first | (go_at_call 80; refine (Q4.out _).mono ?_; rintro r5 w5 ⟨rfl, ht5⟩; have o5 := (o.touch (Touch.refl Nothing _).drew).touch ht5; have fz := frz_blk o5.el 0; obtain ⟨z0, z1, z2, z3, z4⟩ := el_cells o5.el))
  have on := o5.set (el_set0 (v := d0 + 19 * q4) o5.el)
  generalize w5.setCell ⟨g, 0, none⟩ (.int .u64 (d0 + 19 * q4)) = U0 at on ⊢
  clear o o5 fz cS ht5 z0 z1 z2 z3 z4
  have o := on
  clear on
  have cS := Lib.hid (fun w' e' (h' : Tm g w [(x4, h44, l44), (x3, h34, l34), (x2, h24, l24), (x1, h14, l14), (x0, h04, l04)] w' e') => (⟨(h'.cells (x := x1) (hi := h14) (lo := l14) (by simp)).2, (h'.cells (x := x0) (hi := h04) (lo := l04) (by simp)).1, (h'.cells (x := x0) (hi := h04) (lo := l04) (by simp)).2⟩ : (fun w9 : World => w9.cell? ⟨x1, 1, none⟩ = some (.int .u64 l14) ∧ w9.cell? ⟨x0, 0, none⟩ = some (.int .u64 h04) ∧ w9.cell? ⟨x0, 1, none⟩ = some (.int .u64 l04)) w'))
  go_upto_region 9 with fail
  go_region_held3 (fun w9 : World => w9.cell? ⟨x1, 1, none⟩ = some (.int .u64 l14) ∧ w9.cell? ⟨x0, 0, none⟩ = some (.int .u64 h04) ∧ w9.cell? ⟨x0, 1, none⟩ = some (.int .u64 l04))
    (first | assumption | exact cS.out _ _ (o.touch (Touch.refl _ _).drew) | exact cS.out _ _ o5 | exact cS.out _ _ (o5.set (el_set1 o5.el)))
    (first | (go_at_call 80; refine (Q0.out _).mono ?_; rintro r5 w5 ⟨rfl, ht5⟩; have o5 := (o.touch (Touch.refl Nothing _).drew).touch ht5; have fz := frz_blk o5.el 1; obtain ⟨z0, z1, z2, z3, z4⟩ := el_cells o5.el))
  have on := o5.set (el_set1 (v := d1 + q0) o5.el)
  generalize w5.setCell ⟨g, 1, none⟩ (.int .u64 (d1 + q0)) = U1 at on ⊢
  clear o o5 fz cS ht5 z0 z1 z2 z3 z4
  have o := on
  clear on
  have cS := Lib.hid (fun w' e' (h' : Tm g w [(x4, h44, l44), (x3, h34, l34), (x2, h24, l24), (x1, h14, l14), (x0, h04, l04)] w' e') => (⟨(h'.cells (x := x2) (hi := h24) (lo := l24) (by simp)).2, (h'.cells (x := x1) (hi := h14) (lo := l14) (by simp)).1, (h'.cells (x := x1) (hi := h14) (lo := l14) (by simp)).2⟩ : (fun w9 : World => w9.cell? ⟨x2, 1, none⟩ = some (.int .u64 l24) ∧ w9.cell? ⟨x1, 0, none⟩ = some (.int .u64 h14) ∧ w9.cell? ⟨x1, 1, none⟩ = some (.int .u64 l14)) w'))
  go_upto_region 10 with fail
  go_region_held3 (fun w9 : World => w9.cell? ⟨x2, 1, none⟩ = some (.int .u64 l24) ∧ w9.cell? ⟨x1, 0, none⟩ = some (.int .u64 h14) ∧ w9.cell? ⟨x1, 1, none⟩ = some (.int .u64 l14))
    (first | assumption | exact cS.out _ _ (o.touch (Touch.refl _ _).drew) | exact cS.out _ _ o5 | exact cS.out _ _ (o5.set (el_set2 o5.el)))
    (first | (go_at_call 80; refine (Q1.out _).mono ?_; rintro r5 w5 ⟨rfl, ht5⟩; have o5 := (o.touch (Touch.refl Nothing _).drew).touch ht5; have fz := frz_blk o5.el 2; obtain ⟨z0, z1, z2, z3, z4⟩ := el_cells o5.el))
  have on := o5.set (el_set2 (v := d2 + q1) o5.el)
  generalize w5.setCell ⟨g, 2, none⟩ (.int .u64 (d2 + q1)) = U2 at on ⊢
  clear o o5 fz cS ht5 z0 z1 z2 z3 z4
  have o := on
  clear on
  have cS := Lib.hid (fun w' e' (h' : Tm g w [(x4, h44, l44), (x3, h34, l34), (x2, h24, l24), (x1, h14, l14), (x0, h04, l04)] w' e') => (⟨(h'.cells (x := x3) (hi := h34) (lo := l34) (by simp)).2, (h'.cells (x := x2) (hi := h24) (lo := l24) (by simp)).1, (h'.cells (x := x2) (hi := h24) (lo := l24) (by simp)).2⟩ : (fun w9 : World => w9.cell? ⟨x3, 1, none⟩ = some (.int .u64 l34) ∧ w9.cell? ⟨x2, 0, none⟩ = some (.int .u64 h24) ∧ w9.cell? ⟨x2, 1, none⟩ = some (.int .u64 l24)) w'))
  go_upto_region 11 with fail
  go_region_held3 (fun w9 : World => w9.cell? ⟨x3, 1, none⟩ = some (.int .u64 l34) ∧ w9.cell? ⟨x2, 0, none⟩ = some (.int .u64 h24) ∧ w9.cell? ⟨x2, 1, none⟩ = some (.int .u64 l24))
    (first | assumption | exact cS.out _ _ (o.touch (Touch.refl _ _).drew) | exact cS.out _ _ o5 | exact cS.out _ _ (o5.set (el_set3 o5.el)))
    (first | (go_at_call 80; refine (Q2.out _).mono ?_; rintro r5 w5 ⟨rfl, ht5⟩; have o5 := (o.touch (Touch.refl Nothing _).drew).touch ht5; have fz := frz_blk o5.el 3; obtain ⟨z0, z1, z2, z3, z4⟩ := el_cells o5.el))
  have on := o5.set (el_set3 (v := d3 + q2) o5.el)
  generalize w5.setCell ⟨g, 3, none⟩ (.int .u64 (d3 + q2)) = U3 at on ⊢
  clear o o5 fz cS ht5 z0 z1 z2 z3 z4
  have o := on
  clear on
  have cS := Lib.hid (fun w' e' (h' : Tm g w [(x4, h44, l44), (x3, h34, l34), (x2, h24, l24), (x1, h14, l14), (x0, h04, l04)] w' e') => (⟨(h'.cells (x := x4) (hi := h44) (lo := l44) (by simp)).2, (h'.cells (x := x3) (hi := h34) (lo := l34) (by simp)).1, (h'.cells (x := x3) (hi := h34) (lo := l34) (by simp)).2⟩ : (fun w9 : World => w9.cell? ⟨x4, 1, none⟩ = some (.int .u64 l44) ∧ w9.cell? ⟨x3, 0, none⟩ = some (.int .u64 h34) ∧ w9.cell? ⟨x3, 1, none⟩ = some (.int .u64 l34)) w'))
  go_upto_region 12 with fail
  go_region_held3 (fun w9 : World => w9.cell? ⟨x4, 1, none⟩ = some (.int .u64 l44) ∧ w9.cell? ⟨x3, 0, none⟩ = some (.int .u64 h34) ∧ w9.cell? ⟨x3, 1, none⟩ = some (.int .u64 l34))
    (first | assumption | exact cS.out _ _ (o.touch (Touch.refl _ _).drew) | exact cS.out _ _ o5 | exact cS.out _ _ (o5.set (el_set4 o5.el)))
    (first | (go_at_call 80; refine (Q3.out _).mono ?_; rintro r5 w5 ⟨rfl, ht5⟩; have o5 := (o.touch (Touch.refl Nothing _).drew).touch ht5; have fz := frz_blk o5.el 4; obtain ⟨z0, z1, z2, z3, z4⟩ := el_cells o5.el))
  have on := o5.set (el_set4 (v := d4 + q3) o5.el)
  generalize w5.setCell ⟨g, 4, none⟩ (.int .u64 (d4 + q3)) = U4 at on ⊢
  clear o o5 fz cS ht5 z0 z1 z2 z3 z4
  have o := on
  clear on
  go_wp2_with (go_at_call 81; refine (carry_any _ g _ o.el hpb.out).mono ?_; rintro r w7 ⟨rfl, hh, ht⟩)
  go_end0
  exact ⟨rfl, hh, o.ht.trans' ht⟩

end Go.Proofs.Ytfnmnmjpcamkiaa
