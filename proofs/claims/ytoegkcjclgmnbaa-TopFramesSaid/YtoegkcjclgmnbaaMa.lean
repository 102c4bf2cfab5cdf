/-
  Layer 11 (mail): ids, lengths, walked.
-/
import Derived.Test.YtoegkcjclgmnbaaShelf
import Derived.Test.YtoegkcjclgmnbaaMem
import Derived.Test.YtoegkcjclgmnbaaModel
import Derived.Outline
import Derived.Deep.Cut
import Derived.Deep.DeepCutAuto
namespace Go.Proofs.Ytoegkcjclgmnbaa
open Go.RowKit
set_option linter.unusedVariables false
set_option linter.unusedSimpArgs false

def noId : ByteArray := ⟨#[0, 0, 0, 0, 0, 0, 0, 0, 0, 0, 0, 0, 0, 0, 0, 0]⟩
def isId (s : ByteArray) : Bool := decide (s.size = 16 ∧ s ≠ noId)

theorem isId_any (w : World) (s : ByteArray) (b : Bool) (hb : b = isId s) : Calls Try.prog 52 #[.string s] w fun r w' => r = .returned (.bool b) ∧ w' = w := by
  by_cases h : s.size = 16
  · have h1 : ((s.size : Int) == 16) = true := by simp; omega
    have h2 : (s.size : Int) = 16 := by omega
    by_cases e : s = noId
    · subst e
      obtain rfl : b = false := by rw [hb]; simp [isId]
      clear hb h h1 h2
      go_enter Try.func52, Try.ntmps52
      unfold noId
      go_wp2
      go_ret
      exact ⟨rfl, rfl⟩
    · obtain rfl : b = true := by rw [hb]; simp [isId, h, e]
      clear hb
      have hq : (s.toList == [0, 0, 0, 0, 0, 0, 0, 0, 0, 0, 0, 0, 0, 0, 0, 0]) = false := by
        rw [ByteArray.toList_eq]
        refine Bool.eq_false_iff.2 fun q => e ?_
        have := eq_of_beq q
        exact ByteArray.ext (Array.toList_inj.1 this)
      clear e
      go_enter Try.func52, Try.ntmps52
      go_wp2
      go_ret
      exact ⟨rfl, rfl⟩
  · have h1 : ((s.size : Int) == 16) = false := by simp; omega
    have h2 : ¬ (s.size : Int) = 16 := by omega
    obtain rfl : b = false := by rw [hb]; simp [isId, h]
    clear hb
    go_enter Try.func52, Try.ntmps52
    go_wp2
    go_ret
    exact ⟨rfl, rfl⟩

theorem Long_any (w : World) (k : Int) (n : Nat) (h : (k = 1 ∧ n = 505) ∨ (k = 2 ∧ n = 38) ∨ (k = 3 ∧ n = 962) ∨ (k = 4 ∧ n = 102)) : Calls Try.prog 37 #[.int .i64 k] w fun r w' => r = .returned (.int .i64 (n : Int)) ∧ w' = w := by
  rcases h with ⟨rfl, rfl⟩ | ⟨rfl, rfl⟩ | ⟨rfl, rfl⟩ | ⟨rfl, rfl⟩
  all_goals
    go_enter Try.func37, Try.ntmps37
    go_wp2
    go_ret
    exact ⟨rfl, rfl⟩

/-- An entry's slot. -/
def entry (x : ByteArray × ByteArray) : Bool := isId x.1 && decide (x.2.size ≤ 222)
def slV (x : ByteArray × ByteArray) : Value := .agg #[.string x.1, .string x.2]

theorem entry_any (w : World) (x : ByteArray × ByteArray) (b : Bool) (hb : b = entry x) : Calls Try.prog 47 #[slV x] w fun r w' => r = .returned (.bool b) ∧ Touch Nothing w w' := by
  obtain ⟨i, t⟩ := x
  unfold slV
  simp only []
  obtain ⟨bi, hbi⟩ : ∃ q, q = isId i := ⟨_, rfl⟩
  have hI := Lib.hid (fun w => isId_any w i bi hbi)
  have h9 := heap_alloc_new w (.cells #[.string i, .string t] 74)
  have ta := Lib.hid ((Touch.refl Nothing w).alloc (.cells #[.string i, .string t] 74))
  replace h9 := Lib.hid h9
  have hb2 : b = (bi && decide (t.size ≤ 222)) := by rw [hb, hbi]; rfl
  clear hb hbi
  cases bi
  · obtain rfl : b = false := by rw [hb2]; rfl
    clear hb2
    go_enter Try.func47, Try.ntmps47
    go_wp2_with (first | (go_at_call 52; refine (hI.out _).mono ?_; rintro r w2 ⟨rfl, rfl⟩))
    go_ret
    exact ⟨rfl, ta.out⟩
  · by_cases ht : t.size ≤ 222
    · obtain rfl : b = true := by rw [hb2]; simp [ht]
      have h1 : (t.size : Int) ≤ 222 := by omega
      clear hb2
      go_enter Try.func47, Try.ntmps47
      go_wp2_with (first | (go_at_call 52; refine (hI.out _).mono ?_; rintro r w2 ⟨rfl, rfl⟩))
      go_ret
      exact ⟨rfl, ta.out⟩
    · obtain rfl : b = false := by rw [hb2]; simp [ht]
      have h1 : decide ((t.size : Int) ≤ 222) = false := decide_eq_false (by omega)
      clear hb2
      go_enter Try.func47, Try.ntmps47
      go_wp2_with (first | (go_at_call 52; refine (hI.out _).mono ?_; rintro r w2 ⟨rfl, rfl⟩))
      go_ret
      exact ⟨rfl, ta.out⟩

theorem rep_zero : ∀ c : Nat, Lib.repeatL [(0 : UInt8)] c = List.replicate c 0 := by
  intro c
  induction c with
  | zero => rfl
  | succ c ih => rw [Lib.repeatL, ih]; rfl

theorem pad_any (w : World) (s : ByteArray) (n : Nat) (h : s.size ≤ n) (hn : n ≤ 65536) : Calls Try.prog 36 #[.string s, .int .i64 (n : Int)] w fun r w' => r = .returned (.string ⟨(tx s ++ List.replicate (n - s.size) 0).toArray⟩) ∧ Below w.heap.size w w' := by
  obtain ⟨c, hc⟩ : ∃ c, c = n - s.size := ⟨_, rfl⟩
  have hR := Try.strings_Repeat ⟨#[0]⟩ c w (by omega) (by simp [ByteArray.size]; omega)
  rw [show (⟨#[0]⟩ : ByteArray).data.toList = [0] from rfl, rep_zero] at hR
  obtain ⟨Z, hZ⟩ : ∃ Z : List UInt8, Z = List.replicate c 0 := ⟨_, rfl⟩
  have hz : ¬ 9223372036854775807 < s.size + Z.length := by rw [hZ, List.length_replicate]; omega
  have x1 : (n : Int) - (s.size : Int) = (c : Int) := by omega
  have x2 : IntKind.i64.wrap (c : Int) = (c : Int) := wraps_i64 _ (by omega) (by omega)
  have hf : s ++ ⟨Z.toArray⟩ = ⟨(tx s ++ Z).toArray⟩ := by
    apply ByteArray.ext
    rw [ByteArray.data_append]
    apply Array.toList_inj.1
    simp [tx]
  rw [← hc, ← hZ]
  rw [← hZ] at hR
  replace hR := Lib.hid hR
  replace hc := Lib.hid hc
  replace hZ := Lib.hid hZ
  replace hf := Lib.hid hf
  go_enter Try.func36, Try.ntmps36
  go_wp2_with (first | (go_at_call 45; refine hR.out.mono ?_; rintro r w2 ⟨rfl, b2⟩))
  go_ret
  exact ⟨by rw [← hf.out]; rfl, b2⟩

theorem join_nosep : ∀ xs : List ByteArray, Lib.join (xs.map (·.data.toList)) [] = xs.flatMap tx
  | [] => rfl
  | [x] => by simp [Lib.join, List.intercalate, tx]
  | x :: y :: r => by
    have := join_nosep (y :: r)
    simp [Lib.join, List.intercalate, tx] at this ⊢
    exact this

/-- Texts put together. -/
theorem join_any (w : World) (g o c : Nat) (xs : List ByteArray) (hcells : ∀ (j : Nat) x, xs[j]? = some x → w.cell? ⟨g, o + j, none⟩ = some (.string x)) (hg : g < w.heap.size) (hc : xs.length ≤ c) (hl : (xs.flatMap tx).length ≤ 140737488355328) (hn : xs.length ≤ 140737488355328) :
    Calls Try.prog 35 #[.slice (some ⟨g, o, none⟩) xs.length c] w fun r w' => r = .returned (.string ⟨(xs.flatMap tx).toArray⟩) ∧ Below w.heap.size w w' := by
  have hj : Lib.join (xs.map (·.data.toList)) (⟨#[]⟩ : ByteArray).data.toList = xs.flatMap tx := by
    rw [show (⟨#[]⟩ : ByteArray).data.toList = [] from rfl]
    exact join_nosep xs
  have hJ := Try.strings_Join g o c xs ⟨#[]⟩ w hcells hg hn hc (by rw [hj]; exact hl)
  rw [hj] at hJ
  obtain ⟨Z, hZ⟩ : ∃ Z, Z = xs.flatMap tx := ⟨_, rfl⟩
  rw [← hZ] at hJ ⊢
  obtain ⟨n, hnn⟩ : ∃ n, n = xs.length := ⟨_, rfl⟩
  rw [← hnn] at hJ ⊢
  replace hJ := Lib.hid hJ
  clear hj hZ hnn hcells hl hn hc
  go_enter Try.func35, Try.ntmps35
  go_wp2_with (first | (go_at_call 44; refine hJ.out.mono ?_; rintro r w2 ⟨rfl, b2⟩))
  go_ret
  exact ⟨rfl, b2⟩

end Go.Proofs.Ytoegkcjclgmnbaa
