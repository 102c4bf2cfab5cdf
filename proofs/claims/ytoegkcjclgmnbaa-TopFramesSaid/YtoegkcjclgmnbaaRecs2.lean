/-
  What a row's argument gives a walk where it is a slice of structs: fields that are texts, booleans.
-/
import Derived.Test.YtoegkcjclgmnbaaRecs
namespace Go.Proofs.Ytoegkcjclgmnbaa
open Go.ChangeShapes Go.WideShapes Go.ChangeAt Go.RowKit Go.Deep

/-- The text that lies in a cell; the boolean. -/
def cellS (w : World) (a : Addr) : ByteArray := match w.cell? a with | some (.string s) => s | _ => ByteArray.empty
def cellB (w : World) (a : Addr) : Bool := match w.cell? a with | some (.bool b) => b | _ => false

theorem field_str {H : Type} {enc : TypeId × Value → H} {P : Program} {W : World} {base n : Nat} {held : Bool} {t : TypeId} {u : Value} {y : DataW H × List MemPlace} {a : Addr} (hu : P.underlying t = some .string)
    (hc : W.cell? a = some u) (h : DataW.trod enc P W base (fun _ => true) held n t [u] = some y) :
    W.cell? a = some (.string (cellS W a)) ∧ (cellS W a).size ≤ 9223372036854775807 ∧ y.1 = .lit (.string (cellS W a).data.toList) := by
  obtain ⟨k, e, rfl, wf⟩ := DataW.trod_string hu h
  simp only [List.cons.injEq, and_true] at e
  subst e
  have hk : cellS W a = k := by unfold cellS; rw [hc]
  rw [hk]
  exact ⟨hc, by simpa [maxLen] using wf, rfl⟩

theorem field_bool {H : Type} {enc : TypeId × Value → H} {P : Program} {W : World} {base n : Nat} {held : Bool} {t : TypeId} {u : Value} {y : DataW H × List MemPlace} {a : Addr} (hu : P.underlying t = some .bool)
    (hc : W.cell? a = some u) (h : DataW.trod enc P W base (fun _ => true) held n t [u] = some y) :
    W.cell? a = some (.bool (cellB W a)) := by
  obtain ⟨k, e, rfl⟩ := DataW.trod_bool hu h
  simp only [List.cons.injEq, and_true] at e
  subst e
  have hk : cellB W a = k := by unfold cellB; rw [hc]
  rw [hk]
  exact hc

end Go.Proofs.Ytoegkcjclgmnbaa
