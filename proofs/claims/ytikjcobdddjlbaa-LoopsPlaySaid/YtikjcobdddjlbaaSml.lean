/-
  Layer 23, the laws' small functions: among, id.
-/
import Derived.Test.YtikjcobdddjlbaaBck
namespace Go.Proofs.Ytikjcobdddjlbaa
open Go.RowKit
set_option linter.unusedVariables false
set_option linter.unusedSimpArgs false

theorem among_num (x n : Int) (h : 1 ≤ n) : (x.tmod n + n) % n = x % n := by
  rw [Int.add_emod_right]
  have := Int.tmod_eq_emod (a := x) (b := n)
  rw [this]
  split
  · simp
  · have hn : (n.natAbs : Int) = n := by omega
    rw [hn, Int.sub_emod_right]
    simp

theorem among_any (w : World) (x n : Int) (hx : -9223372036854775808 ≤ x ∧ x ≤ 9223372036854775807) (h : 1 ≤ n ∧ n ≤ 1099511627776) :
    Calls Try.prog 8 #[.int .i64 x, .int .i64 n] w fun e w' => e = .returned (.int .i64 (x % n)) ∧ w' = w := by
  have h1 := among_num x n h.1
  have h2 := Int.lt_tmod_of_pos x (b := n) (by omega)
  have h3 := Int.tmod_lt_of_pos x (b := n) (by omega)
  have hn0 : n ≠ 0 := by omega
  replace h1 := Lib.hid h1
  go_enter Try.func8, Try.ntmps8
  go_wp2
  go_ret
  exact ⟨congrArg (fun k => Ending.returned (.int .i64 k)) h1.out, rfl⟩

/-- The id of a number, as the laws make it. -/
def idB (n : Nat) : List UInt8 := [UInt8.ofNat n, UInt8.ofNat (n / 256), 102, 111, 117, 114, 116, 101, 101, 110, 32, 98, 121, 116, 101, 115]

theorem id_any (w : World) (n : Nat) (hn : n ≤ 1048576) :
    Calls Try.prog 11 #[.int .i64 (n : Int)] w fun e w' => e = .returned (.string ⟨(idB n).toArray⟩) ∧ Touch Nothing w w' := by
  have hcv : (convert 63 9 (.slice (some ⟨w.heap.size, 0, none⟩) 2 2)).run Try.prog (w.alloc (.cells #[.int .u8 ((n : Int) % 256), .int .u8 ((n : Int) / 256 % 256)] 5)) =
      .ok (.string ⟨[UInt8.ofNat n, UInt8.ofNat (n / 256)].toArray⟩) (w.alloc (.cells #[.int .u8 ((n : Int) % 256), .int .u8 ((n : Int) / 256 % 256)] 5)) := by
    have hs : SlB (w.alloc (.cells #[.int .u8 ((n : Int) % 256), .int .u8 ((n : Int) / 256 % 256)] 5)) (some ⟨w.heap.size, 0, none⟩) 2 [UInt8.ofNat n, UInt8.ofNat (n / 256)] := by
      refine SlB.made ?_ (by simp) (Touch.refl _ _)
      have e1 : ((UInt8.ofNat n).toNat : Int) = (n : Int) % 256 := by simp
      have e2 : ((UInt8.ofNat (n / 256)).toNat : Int) = (n : Int) / 256 % 256 := by simp
      simp only [List.map_cons, List.map_nil, byteV, e1, e2]
    exact hs.conv rfl 63 5 9 Try.underlying63 Try.underlying5 Try.underlying9 _
  replace hcv := Lib.hid hcv
  go_enter Try.func11, Try.ntmps11
  go_wp2
  rw [hcv.out]
  simp only [Result.andThen]
  rw [Oper.upon_value]
  go_wp2
  go_ret
  exact ⟨rfl, (Touch.refl _ _).alloc _⟩

end Go.Proofs.Ytikjcobdddjlbaa
