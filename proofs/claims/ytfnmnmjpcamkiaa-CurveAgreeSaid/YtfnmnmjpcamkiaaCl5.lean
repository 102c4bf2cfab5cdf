/-
  Layer 2's law helpers: scalar, walked.
-/
import Derived.Test.YtfnmnmjpcamkiaaCl3
namespace Go.Proofs.Ytfnmnmjpcamkiaa
open Go.RowKit
set_option linter.unusedVariables false
set_option linter.unusedSimpArgs false

/-- The first 32 bytes, with zeros behind. -/
def padL (l : List UInt8) : List UInt8 := l.take 32 ++ List.replicate (32 - l.length) 0

theorem padL_length (l : List UInt8) : (padL l).length = 32 := by simp [padL]; omega

def scalarS (k : ByteArray) : ByteArray := ⟨(padL k.data.toList).toArray⟩

theorem scalarS_size (k : ByteArray) : (scalarS k).size = 32 := by
  have := padL_length k.data.toList
  simpa [scalarS, ByteArray.size] using this

theorem copyG (w : World) (g : Nat) (k : ByteArray) (hg : w.heap[g]? = some (.cells (Array.replicate 32 (.int .u8 0)) 5)) :
    ∃ (n : Int) (w2 : World), (Builtin.copy_ #[42, 9] 3 #[.slice (some ⟨g, 0, none⟩) 32 32, .string k]).run Try.prog w = .ok (.int .i64 n) w2 ∧ Touch (fun i => i = g) w w2 ∧ SlB w2 (some ⟨g, 0, none⟩) 32 (padL k.data.toList) := by
  have hlen : (Lib.byteCells (k.data.toList.take 32)).length = min 32 k.data.toList.length := by rw [Lib.byteCells_length, List.length_take]
  have hst := run_storeCells_at Try.prog g 0 5 (Lib.byteCells (k.data.toList.take 32)) 0 _ w hg (by rw [hlen]; simp; omega) (Lib.byteCells_one _)
  simp only [Nat.add_zero, Nat.zero_add] at hst
  obtain ⟨C, hC⟩ : ∃ C, C = ((Array.replicate 32 (Value.int .u8 0)).toList.take 0 ++ Lib.byteCells (k.data.toList.take 32) ++ (Array.replicate 32 (Value.int .u8 0)).toList.drop (Lib.byteCells (k.data.toList.take 32)).length) := ⟨_, rfl⟩
  rw [← hC] at hst
  have hr := heap_setRow (cs := C.toArray) hg
  refine ⟨((Nat.min k.size 32 : Nat) : Int), w.setRow g C.toArray, ?_, touch_setRow _ _ _, ?_⟩
  rotate_left 1
  · refine ⟨by rw [padL_length]; omega, fun i hi => ⟨g, 0, rfl, ?_⟩⟩
    rw [Nat.zero_add, cell_blk hr i, hC, hlen]
    have e : (List.take 0 (Array.replicate 32 (Value.int .u8 0)).toList ++ Lib.byteCells (k.data.toList.take 32) ++ List.drop (min 32 k.data.toList.length) (Array.replicate 32 (Value.int .u8 0)).toList) = (padL k.data.toList).map byteV := by
      unfold padL Lib.byteCells
      rw [List.map_append, List.map_replicate]
      simp only [List.take_zero, List.nil_append, Array.toList_replicate, List.drop_replicate]
      congr 2
      omega
    rw [e, List.getElem?_toArray, List.getElem?_map, List.getElem?_eq_getElem hi]
    rfl
  · have hs : k.size = k.data.toList.length := Lib.size_eq k
    have htk : List.take (Nat.min k.size 32) (List.map (fun b : UInt8 => Value.int IntKind.u8 (b.toNat : Int)) k.data.toList) = Lib.byteCells (k.data.toList.take 32) := by
      rw [← List.map_take]
      unfold Lib.byteCells
      congr 1
      rw [hs]
      show List.take (min k.data.toList.length 32) _ = _
      rw [Nat.min_comm, ← List.take_take, List.take_length]
    have hi : (Try.prog.info? 5).map (·.size) = some 1 := by kernel_rfl
    cases hq : Try.prog.info? 5 with
    | none => simp [hq] at hi
    | some i =>
      have h1 : i.size = 1 := by simpa [hq] using hi
      simp [Builtin.copy_, run_underlying Try.underlying42, Builtin.lenOf, Builtin.firstCells, sizeOf, typeInfo, hq]
      rw [htk, hst]
      simp [Result.andThen]
      rfl

set_option maxRecDepth 100000 in
theorem scalar_any (w : World) (k : ByteArray) : Calls Try.prog 48 #[.string k] w fun r w' => r = .returned (.string (scalarS k)) ∧ Touch Nothing w w' := by
  have hmk : ∀ w, (Instr.makeSlice 42 (.int .i64 32) (.int .i64 32)).run Try.prog w = .ok (.slice (some ⟨w.heap.size, 0, none⟩) 32 32) (w.alloc (.cells (Array.replicate 32 (.int .u8 0)) 5)) := fun _ => by kernel_rfl
  obtain ⟨n, w2, hcp, ht, hsl⟩ := copyG (w.alloc (.cells (Array.replicate 32 (.int .u8 0)) 5)) w.heap.size k (heap_alloc_new _ _)
  have hconv := hsl.conv (P := Try.prog) (n := 32) (padL_length _) 42 5 9 Try.underlying42 Try.underlying5 Try.underlying9 32
  have hT : Touch Nothing w w2 := ((Touch.refl Nothing w).alloc _).trans ht fun i hi q => by omega
  obtain ⟨s, hs⟩ : ∃ s, s = scalarS k := ⟨_, rfl⟩
  have hc : (⟨(padL k.data.toList).toArray⟩ : ByteArray) = s := hs.symm
  rw [hc] at hconv
  rw [← hs]
  clear hc hs
  replace hsl := Lib.hid hsl
  replace hT := Lib.hid hT
  replace ht := Lib.hid ht
  go_enter Try.func48, Try.ntmps48
  go_wp2
  go_ret
  exact ⟨rfl, hT.out⟩

end Go.Proofs.Ytfnmnmjpcamkiaa
