/-
  Layer 27: a slice of frames that came in, as the walks want it.
-/
import Derived.Test.YtkoplgpobagfoaaRecs
import Derived.Test.YtkoplgpobagfoaaVv
namespace Go.Proofs.Ytkoplgpobagfoaa
open Go.ChangeShapes Go.WideShapes Go.ChangeAt Go.RowKit Go.Deep
set_option linter.unusedVariables false

theorem open_frs {H : Type} {enc : TypeId × Value → H} {W : World} {base base' : Nat} {held : Bool} {v : Value} {d : DataW H} {ps : List MemPlace}
    (hv : Value.okWide Try.prog W .any base' 22 v) (h : DataW.Trod enc Try.prog W base (fun _ => true) held 22 v d ps) :
    ∃ (a : Option Addr) (c : Nat) (ls : List Fr), v = .slice a ls.length c ∧ FrA W (.slice a ls.length c) ls ∧
      (∀ x ∈ ls, x.inR) ∧
      ((d = .nil ∧ ls = []) ∨ ∃ l sp, d = .slice l sp ∧ l.length = ls.length) := by
  rcases open_recs Try.underlying22 Try.underlying50 (by kernel_rfl) (by kernel_rfl) hv h with ⟨rfl, rfl⟩ | ⟨a, len, cap, D, sp, rfl, hlc, rfl, hf⟩
  · exact ⟨none, 0, [], rfl, .inl ⟨rfl, rfl⟩, by simp, .inl ⟨rfl, rfl⟩⟩
  · obtain ⟨fr, hfr⟩ : ∃ fr : Nat → Fr, fr = fun i => ⟨cellI W (a.add (i * 4)), cellI W (a.add (i * 4 + 1)), cellI W (a.add (i * 4 + 2)), cellI W (a.add (i * 4 + 3))⟩ := ⟨_, rfl⟩
    have hr : ∀ i, i < len → ∃ g o, a = ⟨g, o, none⟩ ∧ W.rangeAt g (o + i * 4) (frCs (fr i)) ∧ (fr i).inR := by
      intro i hi
      obtain ⟨ys, n, _, _, hj⟩ := hf i hi
      obtain ⟨u0, y0, c0, _, r0⟩ := hj 0 _ rfl
      obtain ⟨u1, y1, c1, _, r1⟩ := hj 1 _ rfl
      obtain ⟨u2, y2, c2, _, r2⟩ := hj 2 _ rfl
      obtain ⟨u3, y3, c3, _, r3⟩ := hj 3 _ rfl
      have f0 := field_int Try.underlying3 c0 r0
      have f1 := field_int Try.underlying3 c1 r1
      have f2 := field_int Try.underlying3 c2 r2
      have f3 := field_int Try.underlying3 c3 r3
      obtain ⟨ys', n', _, _, hj'⟩ := hf 0 (by omega)
      obtain ⟨u', _, c', _, _⟩ := hj' 0 _ rfl
      obtain ⟨b, o', rfl⟩ : ∃ g o, a = ⟨g, o, none⟩ := addr_plain (v := u') (by simpa using c')
      have e0 : ∀ k, (⟨b, o', none⟩ : Addr).add k = ⟨b, o' + k, none⟩ := fun k => by simp [Addr.add]
      have q0 : (W.cell? ((⟨b, o', none⟩ : Addr).add (i * 4)) = some (.int .i64 (cellI W ((⟨b, o', none⟩ : Addr).add (i * 4))))) ∧ (-9223372036854775808 ≤ cellI W ((⟨b, o', none⟩ : Addr).add (i * 4)) ∧ cellI W ((⟨b, o', none⟩ : Addr).add (i * 4)) ≤ 9223372036854775807) := f0
      have q1 : (W.cell? ((⟨b, o', none⟩ : Addr).add (i * 4 + 1)) = some (.int .i64 (cellI W ((⟨b, o', none⟩ : Addr).add (i * 4 + 1))))) ∧ (-9223372036854775808 ≤ cellI W ((⟨b, o', none⟩ : Addr).add (i * 4 + 1)) ∧ cellI W ((⟨b, o', none⟩ : Addr).add (i * 4 + 1)) ≤ 9223372036854775807) := f1
      have q2 : (W.cell? ((⟨b, o', none⟩ : Addr).add (i * 4 + 2)) = some (.int .i64 (cellI W ((⟨b, o', none⟩ : Addr).add (i * 4 + 2))))) ∧ (-9223372036854775808 ≤ cellI W ((⟨b, o', none⟩ : Addr).add (i * 4 + 2)) ∧ cellI W ((⟨b, o', none⟩ : Addr).add (i * 4 + 2)) ≤ 9223372036854775807) := f2
      have q3 : (W.cell? ((⟨b, o', none⟩ : Addr).add (i * 4 + 3)) = some (.int .i64 (cellI W ((⟨b, o', none⟩ : Addr).add (i * 4 + 3))))) ∧ (-9223372036854775808 ≤ cellI W ((⟨b, o', none⟩ : Addr).add (i * 4 + 3)) ∧ cellI W ((⟨b, o', none⟩ : Addr).add (i * 4 + 3)) ≤ 9223372036854775807) := f3
      refine ⟨b, o', rfl, fun j u hu => ?_, ?_⟩
      · rw [hfr] at hu
        rw [e0] at q0 q1 q2 q3
        have hj4 : j < 4 := (List.getElem?_eq_some_iff.1 hu).1
        rcases (by omega : j = 0 ∨ j = 1 ∨ j = 2 ∨ j = 3) with rfl | rfl | rfl | rfl
        · obtain rfl := Option.some.inj hu; simp only [e0]; exact q0.1
        · obtain rfl := Option.some.inj hu; simp only [e0]; exact q1.1
        · obtain rfl := Option.some.inj hu; simp only [e0]; exact q2.1
        · obtain rfl := Option.some.inj hu; simp only [e0]; exact q3.1
      · rw [hfr]
        exact ⟨q0.2.1, q0.2.2, q1.2.1, q1.2.2, q2.2.1, q2.2.2, q3.2.1, q3.2.2⟩
    have hl : ((List.range len).map fr).length = len := by simp
    refine ⟨some a, cap, (List.range len).map fr, by rw [hl], .inr ⟨a, cap, rfl, by rw [hl]; exact hlc, fun i hi => ?_⟩, fun x hx => ?_, .inr ⟨_, _, rfl, by simp⟩⟩
    · have hi2 : i < len := by simpa using hi
      obtain ⟨g, o, e, h1, _⟩ := hr i hi2
      exact ⟨g, o, by rw [e], by simpa using h1⟩
    · obtain ⟨i, hi, rfl⟩ := List.mem_map.1 hx
      obtain ⟨_, _, _, _, h4⟩ := hr i (List.mem_range.1 hi)
      exact h4

end Go.Proofs.Ytkoplgpobagfoaa
