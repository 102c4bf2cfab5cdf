/-
  Layer 1: numbers of 128 bits: add, high, walked.
-/
import Derived.Test.YtfnmnmjpcamkiaaCar
import Derived.Test.YtfnmnmjpcamkiaaShelf
import Derived.Laws.Externs
import Derived.Test.YtfnmnmjpcamkiaaRet
namespace Go.Proofs.Ytfnmnmjpcamkiaa
open Go.RowKit
set_option linter.unusedVariables false
set_option linter.unusedSimpArgs false

/-- A number of 128 bits. -/
def wideV (n : Int) : Value := .agg #[.int .u64 (n / 18446744073709551616), .int .u64 (n % 18446744073709551616)]

theorem mul64 (x y : Int) (hx : 0 ≤ x ∧ x < 18446744073709551616) (hy : 0 ≤ y ∧ y < 18446744073709551616) (w : World) :
    Calls Try.prog 88 #[.int .u64 x, .int .u64 y] w fun e w' => e = .returned (.tuple #[.int .u64 (x * y / 18446744073709551616), .int .u64 (x * y % 18446744073709551616)]) ∧ w' = w := by
  obtain ⟨n, rfl⟩ := Int.eq_ofNat_of_zero_le hx.1
  obtain ⟨m, rfl⟩ := Int.eq_ofNat_of_zero_le hy.1
  have h := Try.bits_Mul64 n m (by omega) (by omega) w
  refine h.mono fun e w' hp => ⟨?_, hp.2⟩
  rw [hp.1]
  congr 4

theorem add64 (x y c : Int) (hx : 0 ≤ x) (hy : 0 ≤ y) (hc : 0 ≤ c ∧ c ≤ 1) (w : World) :
    (callFunc 89 #[.int .u64 x, .int .u64 y, .int .u64 c]).run Try.prog w = .ok (.value (.tuple #[.int .u64 ((x + y + c) % 18446744073709551616), .int .u64 ((x + y + c) / 18446744073709551616)])) w := by
  rw [run_callFunc_extern Try.func89 (by kernel_rfl) (by kernel_rfl) (by kernel_rfl) (e := add64Entry) (by kernel_rfl), run_add64 x y c hx hy hc.1 hc.2]
  rfl

set_option maxRecDepth 100000 in
theorem add_any (w : World) (n a b : Int) (hn : 0 ≤ n) (ha : 0 ≤ a ∧ a < 18446744073709551616) (hb : 0 ≤ b ∧ b < 18446744073709551616) (hs : n + a * b < 340282366920938463463374607431768211456) :
    Calls Try.prog 79 #[wideV n, .int .u64 a, .int .u64 b] w fun e w' => e = .returned (wideV (n + a * b)) ∧ Touch Nothing w w' := by
  have hM := mul64 a b ha hb
  have hm0 : 0 ≤ a * b := Int.mul_nonneg ha.1 hb.1
  obtain ⟨m, hm⟩ : ∃ m, m = a * b := ⟨_, rfl⟩
  rw [← hm] at hM hm0 hs ⊢
  obtain ⟨nh, hnh⟩ : ∃ nh, nh = n / 18446744073709551616 := ⟨_, rfl⟩
  obtain ⟨nl, hnl⟩ : ∃ nl, nl = n % 18446744073709551616 := ⟨_, rfl⟩
  obtain ⟨mh, hmh⟩ : ∃ mh, mh = m / 18446744073709551616 := ⟨_, rfl⟩
  obtain ⟨ml, hml⟩ : ∃ ml, ml = m % 18446744073709551616 := ⟨_, rfl⟩
  rw [← hmh, ← hml] at hM
  have e1 := add64 ml nl 0 (by omega) (by omega) ⟨by decide, by decide⟩
  obtain ⟨cy, hcy⟩ : ∃ cy, cy = (ml + nl + 0) / 18446744073709551616 := ⟨_, rfl⟩
  obtain ⟨lo, hlo⟩ : ∃ lo, lo = (ml + nl + 0) % 18446744073709551616 := ⟨_, rfl⟩
  rw [← hcy, ← hlo] at e1
  have e2 := add64 mh nh cy (by omega) (by omega) (by omega)
  obtain ⟨hi, hhi⟩ : ∃ hi, hi = (mh + nh + cy) % 18446744073709551616 := ⟨_, rfl⟩
  rw [← hhi] at e2
  have efin : wideV (n + m) = .agg #[.int .u64 hi, .int .u64 lo] := by
    unfold wideV
    rw [show (n + m) / 18446744073709551616 = hi by omega, show (n + m) % 18446744073709551616 = lo by omega]
  have ein : wideV n = .agg #[.int .u64 nh, .int .u64 nl] := by unfold wideV; rw [hnh, hnl]
  rw [efin, ein]
  replace hM := Lib.hid hM
  clear efin ein hs hm hm0 hnh hnl hmh hml hcy hlo hhi hn
  go_enter Try.func79, Try.ntmps79
  go_wp2_with (go_at_call 88; refine (hM.out _).mono ?_; rintro e w2 ⟨rfl, rfl⟩)
  have hblk : ((w.alloc (Obj.cells #[Value.int IntKind.u64 nh, Value.int IntKind.u64 nl] 74)).alloc (Obj.cells #[Value.int IntKind.u64 hi, Value.int IntKind.u64 lo] 74)).heap[w.heap.size + 1]? = some (.cells [Value.int IntKind.u64 hi, Value.int IntKind.u64 lo].toArray 74 (0, 0)) := by
    have := heap_alloc_new (w.alloc (Obj.cells #[Value.int IntKind.u64 nh, Value.int IntKind.u64 nl] 74)) (Obj.cells #[Value.int IntKind.u64 hi, Value.int IntKind.u64 lo] 74)
    simpa using this
  exact bodyPost_ret (v := .agg #[.int .u64 hi, .int .u64 lo]) (ret_cell (P := Try.prog) rfl rfl hblk Try.underlying74 rfl (by kernel_rfl)) rfl ⟨rfl, ((Touch.refl _ _).alloc _).alloc _⟩

theorem shl13 (h l : Int) (hh : 0 ≤ h ∧ h < 2251799813685248) (hl : 0 ≤ l ∧ l < 8192) : bits .or .u64 (h * 8192) l = h * 8192 + l := by
  obtain ⟨n, rfl⟩ := Int.eq_ofNat_of_zero_le hh.1
  obtain ⟨m, rfl⟩ := Int.eq_ofNat_of_zero_le hl.1
  have e := bits_or_u64_nat (n * 8192) m (by omega) (by omega)
  have e2 : n * 8192 ||| m = n * 8192 + m := by
    have := Nat.two_pow_add_eq_or_of_lt (i := 13) (b := m) (by omega) n
    rw [Nat.mul_comm] at this
    exact this.symm
  rw [e2] at e
  exact e.trans (by omega)

set_option maxRecDepth 100000 in
theorem high_any (w : World) (n : Int) (hn : 0 ≤ n) (hs : n < 41538374868278621028243970633760768) :
    Calls Try.prog 80 #[wideV n] w fun e w' => e = .returned (.int .u64 (n / 2251799813685248)) ∧ Touch Nothing w w' := by
  obtain ⟨nh, hnh⟩ : ∃ nh, nh = n / 18446744073709551616 := ⟨_, rfl⟩
  obtain ⟨nl, hnl⟩ : ∃ nl, nl = n % 18446744073709551616 := ⟨_, rfl⟩
  have ein : wideV n = .agg #[.int .u64 nh, .int .u64 nl] := by unfold wideV; rw [hnh, hnl]
  have e1 := shl13 nh (nl / 2251799813685248) (by omega) (by omega)
  have e2 := u64_in (nh * 8192) (by omega)
  have e3 : nh * 8192 + nl / 2251799813685248 = n / 2251799813685248 := by omega
  rw [ein, ← e3]
  clear ein hn hs hnh hnl e3
  go_enter Try.func80, Try.ntmps80
  go_wp2
  go_ret
  exact ⟨rfl, (Touch.refl _ _).alloc _⟩

end Go.Proofs.Ytfnmnmjpcamkiaa
