/-
  What a row's argument gives a walk where it is a slice of structs whose fields take one cell each: the fields' cells.
-/
import Derived.Test.YtoegkcjclgmnbaaBulk
import Derived.Deep.Slices
import Derived.Deep.Fields
namespace Go.Proofs.Ytoegkcjclgmnbaa
open Go.ChangeShapes Go.WideShapes Go.ChangeAt Go.RowKit Go.Deep

theorem take_one {α : Type} (l : List α) {j : Nat} (h : j < l.length) : (l.drop j).take 1 = [l[j]] := by
  rw [List.drop_eq_getElem_cons h]; rfl

/-- A slice of structs that came in: nil, or elements whose field j of element i lies in the cell i * fields + j and reads as its type does. -/
theorem open_recs {H : Type} {enc : TypeId × Value → H} {P : Program} {W : World} {base base' : Nat} {held : Bool} {t e : TypeId} {fs : Array Field} {v : Value} {d : DataW H} {ps : List MemPlace} (ht : P.underlying t = some (.slice e)) (he : P.underlying e = some (.struct fs))
    (hone : oneCellFields P fs = true) (hC : P.cellsOf e = fs.size) (hv : Value.okWide P W .any base' t v) (h : DataW.Trod enc P W base (fun _ => true) held t v d ps) :
    (v = .slice none 0 0 ∧ d = .nil) ∨
    ∃ (a : Addr) (len cap : Nat) (D : Nat → DataW H) (sp : List (DataW H)), v = .slice (some a) len cap ∧ len ≤ cap ∧ d = .slice ((List.range len).map D) sp ∧
      ∀ i, i < len → ∃ (ys : List (DataW H × List MemPlace)) (n : Nat), D i = .agg (ys.map (·.1)) ∧ ys.length = fs.size ∧
        ∀ (j : Nat) (f : Field), fs[j]? = some f → ∃ (u : Value) (y : DataW H × List MemPlace), W.cell? (a.add (i * fs.size + j)) = some u ∧ ys[j]? = some y ∧ DataW.trod enc P W base (fun _ => true) held n f.type [u] = some y := by
  obtain ⟨a0, len0, cap0, rfl⟩ := okWide_slice ht hv
  obtain ⟨fuel, hf⟩ := h
  rcases Go.Deep.open_slice ht hf with ⟨hcs, hx⟩ | ⟨a, len, cap, m, n, D, Pl, hcs, _, hlc, _, hm, hx, hel⟩
  · left
    simp [Value.cells] at hcs
    obtain ⟨rfl, rfl, rfl⟩ := hcs
    simp only [Prod.mk.injEq] at hx
    exact ⟨rfl, hx.1⟩
  · right
    simp [Value.cells] at hcs
    obtain ⟨rfl, rfl, rfl⟩ := hcs
    simp only [Prod.mk.injEq] at hx
    simp only [if_true] at hm
    refine ⟨a, _, _, D, _, rfl, hlc, hx.1, fun i hi => ?_⟩
    obtain ⟨cs, hc, hd⟩ := hel i (by omega)
    rw [hC] at hc
    obtain ⟨ys, k, _, hy, hcl, hyl, hfs⟩ := DataW.trod_struct he hd
    simp only [Prod.mk.injEq] at hy
    obtain ⟨_, hlen, hat⟩ := World.cells?_some hc
    refine ⟨ys, k, hy.1, hyl, fun j f hj => ?_⟩
    obtain ⟨ho, hk⟩ := hone_of hone j f hj
    have hjs : j < fs.size := (Array.getElem?_eq_some_iff.1 hj).1
    have hjc : j < cs.length := by omega
    have hjy : j < ys.length := by omega
    have hr := hfs j f hj
    rw [ho, hk, take_one cs hjc, List.getElem?_eq_getElem hjy] at hr
    refine ⟨cs[j], ys[j], ?_, List.getElem?_eq_getElem hjy, hr⟩
    have := hat j hjs
    rw [Go.Deep.add_add, List.getElem?_eq_getElem hjc] at this
    exact this

/-- The int that lies in a cell. -/
def cellI (w : World) (a : Addr) : Int := match w.cell? a with | some (.int _ n) => n | _ => 0

theorem block_cell {w : World} {a : Addr} {u : Value} (h : w.cell? a = some u) : a.block < w.heap.size := World.block_lt_of_cell? w a h

/-- A field of one cell that is an int. -/
theorem field_int {H : Type} {enc : TypeId × Value → H} {P : Program} {W : World} {base n : Nat} {held : Bool} {t : TypeId} {u : Value} {y : DataW H × List MemPlace} {a : Addr} (hu : P.underlying t = some (.int .i64))
    (hc : W.cell? a = some u) (h : DataW.trod enc P W base (fun _ => true) held n t [u] = some y) :
    W.cell? a = some (.int .i64 (cellI W a)) ∧ (-9223372036854775808 ≤ cellI W a ∧ cellI W a ≤ 9223372036854775807) := by
  obtain ⟨k, e, rfl, wf⟩ := DataW.trod_int hu h
  simp only [List.cons.injEq, and_true] at e
  subst e
  have hk : cellI W a = k := by unfold cellI; rw [hc]
  rw [hk]
  exact ⟨hc, by simpa [Lit.wf, IntKind.min, IntKind.max, IntKind.signed, IntKind.bits] using wf⟩

theorem bulk_recs {H : Type} (l sp : List (DataW H)) : l.length ≤ Rows.uptoBulk (DataW.slice (H := H) l sp) := by
  have : ∀ l : List (DataW H), l.length ≤ Rows.uptoBulkAll l := by
    intro l
    induction l with
    | nil => simp
    | cons x r ih =>
      have := bulk_one x
      simp [Rows.uptoBulkAll]; omega
  have := this l
  simp [Rows.uptoBulk]; omega

end Go.Proofs.Ytoegkcjclgmnbaa
