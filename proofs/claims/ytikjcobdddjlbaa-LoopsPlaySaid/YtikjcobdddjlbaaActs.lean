/-
  Layer 23: a slice of acts that came in, as the walk of LoopsPlay wants it.
-/
import Derived.Test.YtikjcobdddjlbaaRecs2
import Derived.Test.YtikjcobdddjlbaaProg
namespace Go.Proofs.Ytikjcobdddjlbaa
open Go.ChangeShapes Go.WideShapes Go.ChangeAt Go.RowKit Go.Deep
set_option linter.unusedVariables false

structure Ac where
  kind : Int
  at_ : Int
  id : ByteArray
  far : Bool

def Ac.Ok (x : Ac) : Prop := (-9223372036854775808 ≤ x.kind ∧ x.kind ≤ 9223372036854775807) ∧ (-9223372036854775808 ≤ x.at_ ∧ x.at_ ≤ 9223372036854775807) ∧ x.id.size ≤ 9223372036854775807

def ActA (w : World) (a : Option Addr) (ls : List Ac) : Prop :=
  ∀ i (h : i < ls.length), ∃ g o, a = some ⟨g, o, none⟩ ∧ g < w.heap.size ∧ w.cell? ⟨g, o + i * 4, none⟩ = some (.int .i64 ls[i].kind) ∧ w.cell? ⟨g, o + i * 4 + 1, none⟩ = some (.int .i64 ls[i].at_) ∧
    w.cell? ⟨g, o + i * 4 + 2, none⟩ = some (.string ls[i].id) ∧ w.cell? ⟨g, o + i * 4 + 3, none⟩ = some (.bool ls[i].far)

def actAt (w : World) (a : Addr) (i : Nat) : Ac := ⟨cellI w (a.add (i * 4)), cellI w (a.add (i * 4 + 1)), cellS w (a.add (i * 4 + 2)), cellB w (a.add (i * 4 + 3))⟩

theorem open_acts {H : Type} {enc : TypeId × Value → H} {W : World} {base base' : Nat} {held : Bool} {v : Value} {d : DataW H} {ps : List MemPlace}
    (hv : Value.okWide Try.prog W .any base' 43 v) (h : DataW.Trod enc Try.prog W base (fun _ => true) held 43 v d ps) :
    ∃ (a : Option Addr) (c : Nat) (ls : List Ac), v = .slice a ls.length c ∧ ActA W a ls ∧ (∀ x ∈ ls, x.Ok) ∧
      ((d = .nil ∧ ls = []) ∨ ∃ l sp, d = .slice l sp ∧ l.length = ls.length) := by
  rcases open_recs Try.underlying43 Try.underlying48 (by kernel_rfl) (by kernel_rfl) hv h with ⟨rfl, rfl⟩ | ⟨a, len, cap, D, sp, rfl, hlc, rfl, hf⟩
  · exact ⟨none, 0, [], rfl, fun i hi => by simp at hi, by simp, .inl ⟨rfl, rfl⟩⟩
  · have hr : ∀ i, i < len → ∃ g o, a = ⟨g, o, none⟩ ∧ g < W.heap.size ∧ (W.cell? ⟨g, o + i * 4, none⟩ = some (.int .i64 (actAt W a i).kind) ∧ W.cell? ⟨g, o + i * 4 + 1, none⟩ = some (.int .i64 (actAt W a i).at_) ∧
        W.cell? ⟨g, o + i * 4 + 2, none⟩ = some (.string (actAt W a i).id) ∧ W.cell? ⟨g, o + i * 4 + 3, none⟩ = some (.bool (actAt W a i).far)) ∧ (actAt W a i).Ok := by
      intro i hi
      obtain ⟨ys, n, _, _, hj⟩ := hf i hi
      obtain ⟨u0, y0, c0, _, r0⟩ := hj 0 _ rfl
      obtain ⟨u1, y1, c1, _, r1⟩ := hj 1 _ rfl
      obtain ⟨u2, y2, c2, _, r2⟩ := hj 2 _ rfl
      obtain ⟨u3, y3, c3, _, r3⟩ := hj 3 _ rfl
      have f0 := field_int Try.underlying3 c0 r0
      have f1 := field_int Try.underlying3 c1 r1
      have f2 := field_str Try.underlying9 c2 r2
      have f3 := field_bool Try.underlying4 c3 r3
      obtain ⟨ys', n', _, _, hj'⟩ := hf 0 (by omega)
      obtain ⟨u', _, c', _, _⟩ := hj' 0 _ rfl
      obtain ⟨b, o', rfl⟩ : ∃ g o, a = ⟨g, o, none⟩ := addr_plain (v := u') (by simpa using c')
      have e0 : ∀ k, (⟨b, o', none⟩ : Addr).add k = ⟨b, o' + k, none⟩ := fun k => by simp [Addr.add]
      have q0 : W.cell? ((⟨b, o', none⟩ : Addr).add (i * 4)) = some (.int .i64 (actAt W ⟨b, o', none⟩ i).kind) := f0.1
      have q1 : W.cell? ((⟨b, o', none⟩ : Addr).add (i * 4 + 1)) = some (.int .i64 (actAt W ⟨b, o', none⟩ i).at_) := f1.1
      have q2 : W.cell? ((⟨b, o', none⟩ : Addr).add (i * 4 + 2)) = some (.string (actAt W ⟨b, o', none⟩ i).id) := f2.1
      have q3 : W.cell? ((⟨b, o', none⟩ : Addr).add (i * 4 + 3)) = some (.bool (actAt W ⟨b, o', none⟩ i).far) := f3
      rw [e0] at q0 q1 q2 q3
      exact ⟨b, o', rfl, block_cell q0, ⟨q0, q1, q2, q3⟩, f0.2, f1.2, f2.2.1⟩
    refine ⟨some a, cap, (List.range len).map (actAt W a), by simp, fun i hi => ?_, fun x hx => ?_, .inr ⟨_, _, rfl, by simp⟩⟩
    · have hi : i < len := by simpa using hi
      obtain ⟨g, o, e, h1, ⟨h2, h3, h4, h5⟩, _⟩ := hr i hi
      exact ⟨g, o, by rw [e], h1, by simpa using h2, by simpa using h3, by simpa using h4, by simpa using h5⟩
    · obtain ⟨i, hi, rfl⟩ := List.mem_map.1 hx
      obtain ⟨_, _, _, _, _, h4⟩ := hr i (List.mem_range.1 hi)
      exact h4

end Go.Proofs.Ytikjcobdddjlbaa
