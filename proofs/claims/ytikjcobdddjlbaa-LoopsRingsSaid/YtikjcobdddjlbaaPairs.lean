/-
  Layer 23: a slice of loops that came in, as the walks of LoopsQuiet and LoopsRings want it.
-/
import Derived.Test.YtikjcobdddjlbaaRecs
import Derived.Test.YtikjcobdddjlbaaDuo
namespace Go.Proofs.Ytikjcobdddjlbaa
open Go.ChangeShapes Go.WideShapes Go.ChangeAt Go.RowKit Go.Deep
set_option linter.unusedVariables false

theorem open_pairs {H : Type} {enc : TypeId × Value → H} {W : World} {base base' : Nat} {held : Bool} {v : Value} {d : DataW H} {ps : List MemPlace}
    (hv : Value.okWide Try.prog W .any base' 24 v) (h : DataW.Trod enc Try.prog W base (fun _ => true) held 24 v d ps) :
    ∃ (a : Option Addr) (c : Nat) (ls : List (Int × Int)), v = .slice a ls.length c ∧ LoopA W a ls ∧
      (∀ x ∈ ls, (-9223372036854775808 ≤ x.1 ∧ x.1 ≤ 9223372036854775807) ∧ (-9223372036854775808 ≤ x.2 ∧ x.2 ≤ 9223372036854775807)) ∧
      ((d = .nil ∧ ls = []) ∨ ∃ l sp, d = .slice l sp ∧ l.length = ls.length) := by
  rcases open_recs Try.underlying24 Try.underlying33 (by kernel_rfl) (by kernel_rfl) hv h with ⟨rfl, rfl⟩ | ⟨a, len, cap, D, sp, rfl, hlc, rfl, hf⟩
  · exact ⟨none, 0, [], rfl, fun i hi => by simp at hi, by simp, .inl ⟨rfl, rfl⟩⟩
  · have hr : ∀ i, i < len → ∃ g o, a = ⟨g, o, none⟩ ∧ g < W.heap.size ∧ W.cell? ⟨g, o + i * 2, none⟩ = some (.int .i64 (cellI W (a.add (i * 2)))) ∧ W.cell? ⟨g, o + i * 2 + 1, none⟩ = some (.int .i64 (cellI W (a.add (i * 2 + 1)))) ∧
        ((-9223372036854775808 ≤ cellI W (a.add (i * 2)) ∧ cellI W (a.add (i * 2)) ≤ 9223372036854775807) ∧ (-9223372036854775808 ≤ cellI W (a.add (i * 2 + 1)) ∧ cellI W (a.add (i * 2 + 1)) ≤ 9223372036854775807)) := by
      intro i hi
      obtain ⟨ys, n, _, _, hj⟩ := hf i hi
      obtain ⟨u0, y0, c0, _, r0⟩ := hj 0 _ rfl
      obtain ⟨u1, y1, c1, _, r1⟩ := hj 1 _ rfl
      have f0 := field_int Try.underlying3 c0 r0
      have f1 := field_int Try.underlying3 c1 r1
      obtain ⟨ys', n', _, _, hj'⟩ := hf 0 (by omega)
      obtain ⟨u', _, c', _, _⟩ := hj' 0 _ rfl
      obtain ⟨b, o', rfl⟩ : ∃ g o, a = ⟨g, o, none⟩ := addr_plain (v := u') (by simpa using c')
      have e0 : ∀ k, (⟨b, o', none⟩ : Addr).add k = ⟨b, o' + k, none⟩ := fun k => by simp [Addr.add]
      have q0 : (W.cell? ((⟨b, o', none⟩ : Addr).add (i * 2)) = some (.int .i64 (cellI W ((⟨b, o', none⟩ : Addr).add (i * 2))))) ∧ (-9223372036854775808 ≤ cellI W ((⟨b, o', none⟩ : Addr).add (i * 2)) ∧ cellI W ((⟨b, o', none⟩ : Addr).add (i * 2)) ≤ 9223372036854775807) := f0
      have q1 : (W.cell? ((⟨b, o', none⟩ : Addr).add (i * 2 + 1)) = some (.int .i64 (cellI W ((⟨b, o', none⟩ : Addr).add (i * 2 + 1))))) ∧ (-9223372036854775808 ≤ cellI W ((⟨b, o', none⟩ : Addr).add (i * 2 + 1)) ∧ cellI W ((⟨b, o', none⟩ : Addr).add (i * 2 + 1)) ≤ 9223372036854775807) := f1
      rw [e0] at q0 q1
      have hb := block_cell q0.1
      rw [e0, e0]
      exact ⟨b, o', rfl, hb, q0.1, q1.1, q0.2, q1.2⟩
    refine ⟨some a, cap, (List.range len).map fun i => (cellI W (a.add (i * 2)), cellI W (a.add (i * 2 + 1))), by simp, fun i hi => ?_, fun x hx => ?_, .inr ⟨_, _, rfl, by simp⟩⟩
    · have hi : i < len := by simpa using hi
      obtain ⟨g, o, e, h1, h2, h3, _⟩ := hr i hi
      exact ⟨g, o, by rw [e], h1, by simpa using h2, by simpa using h3⟩
    · obtain ⟨i, hi, rfl⟩ := List.mem_map.1 hx
      obtain ⟨_, _, _, _, _, _, h4⟩ := hr i (List.mem_range.1 hi)
      exact h4

end Go.Proofs.Ytikjcobdddjlbaa
