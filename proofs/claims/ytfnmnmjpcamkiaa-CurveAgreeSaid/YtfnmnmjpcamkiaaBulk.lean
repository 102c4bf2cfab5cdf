/-
  What a row's argument gives a walk: a slice of texts, a slice of ints; what the bound on bulk gives.
-/
import Derived.Test.YtfnmnmjpcamkiaaRows
import Derived.Test.YtfnmnmjpcamkiaaMem
import Derived.ProofKit
import Derived.SliceStrings
namespace Go.Proofs.Ytfnmnmjpcamkiaa
open Go.ChangeShapes Go.WideShapes Go.ChangeAt Go.RowKit

/-- A slice of ints that came in. -/
def IntA (w : World) (v : Value) (zs : List Int) : Prop :=
  (v = .slice Option.none 0 0 ∧ zs = []) ∨
  ∃ a c, v = .slice (some a) zs.length c ∧ zs.length ≤ c ∧ ∀ i (h : i < zs.length), w.cell? (a.add i) = some (.int .i64 zs[i])

theorem open_strA {H : Type} {enc : TypeId × Value → H} {P : Program} {W : World} {base base' : Nat} {held : Bool} {t e : TypeId} {v : Value} {d : DataW H} {ps : List MemPlace} (ht : P.underlying t = some (.slice e)) (he : P.underlying e = some .string) (hc : P.cellsOf e = 1)
    (hv : Value.okWide P W .any base' t v) (h : DataW.Trod enc P W base (fun _ => true) held t v d ps) :
    ∃ ts : List ByteArray, StrA W v ts ∧ (∀ s ∈ ts, s.size ≤ 9223372036854775807) ∧ ((d = .nil ∧ ts = []) ∨ ∃ sp, d = .slice (strs ts) sp) := by
  obtain ⟨a0, len, cap, rfl⟩ := okWide_slice ht hv
  obtain ⟨fuel, hf⟩ := h
  rcases open_strings ht he hc hf with ⟨hcs, hx⟩ | ⟨a, len', cap', ss, hcs, _, hl, hm, hz, hx, hcell, hws⟩
  · simp [Value.cells] at hcs
    obtain ⟨rfl, rfl, rfl⟩ := hcs
    simp only [Prod.mk.injEq] at hx
    exact ⟨[], .inl ⟨rfl, rfl⟩, by simp, .inl ⟨hx.1, rfl⟩⟩
  · simp [Value.cells] at hcs
    obtain ⟨rfl, rfl, rfl⟩ := hcs
    simp only [Prod.mk.injEq] at hx
    simp only [if_true] at hz
    have hlen : (ss.take len).length = len := by simp; omega
    refine ⟨ss.take len, .inr ⟨a, cap, by rw [hlen], by omega, fun i hi => ?_⟩, fun s hs => hws s (List.mem_of_mem_take hs), .inr ⟨_, hx.1⟩⟩
    have hi' : i < ss.length := by omega
    rw [hcell i hi']
    simp [List.getD_eq_getElem?_getD, List.getElem?_eq_getElem hi']

theorem open_intA {H : Type} {enc : TypeId × Value → H} {P : Program} {W : World} {base base' : Nat} {held : Bool} {t e : TypeId} {v : Value} {d : DataW H} {ps : List MemPlace} (ht : P.underlying t = some (.slice e)) (he : P.underlying e = some (.int .i64)) (hc : P.cellsOf e = 1)
    (hv : Value.okWide P W .any base' t v) (h : DataW.Trod enc P W base (fun _ => true) held t v d ps) :
    ∃ zs : List Int, IntA W v zs ∧ (∀ n ∈ zs, -9223372036854775808 ≤ n ∧ n ≤ 9223372036854775807) ∧ ((d = .nil ∧ zs = []) ∨ ∃ sp, d = .slice (lits .i64 zs) sp) := by
  obtain ⟨a0, len, cap, rfl⟩ := okWide_slice ht hv
  obtain ⟨fuel, hf⟩ := h
  rcases open_ints ht he hc hf with ⟨hcs, hx⟩ | ⟨a, len', cap', ss, hcs, _, hl, hm, hz, hx, hcell, hws⟩
  · simp [Value.cells] at hcs
    obtain ⟨rfl, rfl, rfl⟩ := hcs
    simp only [Prod.mk.injEq] at hx
    exact ⟨[], .inl ⟨rfl, rfl⟩, by simp, .inl ⟨hx.1, rfl⟩⟩
  · simp [Value.cells] at hcs
    obtain ⟨rfl, rfl, rfl⟩ := hcs
    simp only [Prod.mk.injEq] at hx
    simp only [if_true] at hz
    have hlen : (ss.take len).length = len := by simp; omega
    refine ⟨ss.take len, .inr ⟨a, cap, by rw [hlen], by omega, fun i hi => ?_⟩, fun n hn => ?_, .inr ⟨_, hx.1⟩⟩
    · have hi' : i < ss.length := by omega
      rw [hcell i hi']
      simp [List.getD_eq_getElem?_getD, List.getElem?_eq_getElem hi']
    · have := hws n (List.mem_of_mem_take hn)
      simpa [Lit.wf, IntKind.min, IntKind.max, IntKind.signed, IntKind.bits] using this

/-- The bulk of texts. -/
def strBulk (ts : List ByteArray) : Nat := (ts.map fun s => s.size + 1).sum

theorem strBulk_len (ts : List ByteArray) : ts.length ≤ strBulk ts := by
  induction ts with
  | nil => simp [strBulk]
  | cons a r ih => simp [strBulk] at ih ⊢; omega

theorem bulk_one {H : Type} (d : DataW H) : 1 ≤ Rows.uptoBulk d := by
  cases d with
  | lit l => cases l <;> simp [Rows.uptoBulk]
  | nil => simp [Rows.uptoBulk]
  | ptr d => simp [Rows.uptoBulk]
  | slice elems spare => simp [Rows.uptoBulk]
  | agg parts => simp [Rows.uptoBulk]
  | iface t d => simp [Rows.uptoBulk]
  | map entries => simp [Rows.uptoBulk]
  | held h => simp [Rows.uptoBulk]

theorem bulk_part {H : Type} {d : DataW H} {l : List (DataW H)} (h : d ∈ l) : Rows.uptoBulk d ≤ Rows.uptoBulkAll l := by
  induction l with
  | nil => cases h
  | cons x r ih =>
    simp only [Rows.uptoBulkAll]
    rcases List.mem_cons.1 h with e | e
    · subst e; omega
    · have := ih e; omega

theorem bulk_le {H : Type} {d : DataW H} {l : List (DataW H)} (h : d ∈ l) (hk : Rows.uptoSmall H l = true) : Rows.uptoBulk d ≤ 1048576 :=
  Nat.le_trans (bulk_part h) (of_decide_eq_true hk)

theorem bulk_strs {H : Type} (ts : List ByteArray) (sp : List (DataW H)) : strBulk ts ≤ Rows.uptoBulk (.slice (strs ts) sp) := by
  have h : ∀ ts : List ByteArray, Rows.uptoBulkAll (strs (H := H) ts) = strBulk ts := fun ts => by
    induction ts with
    | nil => rfl
    | cons s r ih =>
      have e : strs (H := H) (s :: r) = DataW.lit (.string s.data.toList) :: strs r := rfl
      have e1 : s.data.toList.length = s.size := Array.length_toList
      rw [e, Rows.uptoBulkAll, ih, Rows.uptoBulk, e1]
      simp [strBulk]
  simp only [Rows.uptoBulk, h]
  omega

theorem bulk_ints {H : Type} (zs : List Int) (sp : List (DataW H)) : zs.length ≤ Rows.uptoBulk (.slice (lits .i64 zs) sp) := by
  have h : ∀ zs : List Int, zs.length ≤ Rows.uptoBulkAll (lits (H := H) .i64 zs) := fun zs => by
    induction zs with
    | nil => simp
    | cons s r ih =>
      have e : lits (H := H) .i64 (s :: r) = DataW.lit (.int .i64 s) :: lits .i64 r := rfl
      rw [e, Rows.uptoBulkAll]
      have := bulk_one (DataW.lit (H := H) (.int .i64 s))
      simp only [List.length_cons]
      omega
  have := h zs
  simp only [Rows.uptoBulk]
  omega

theorem bulk_str {H : Type} (s : ByteArray) : s.size ≤ Rows.uptoBulk (DataW.lit (H := H) (.string s.data.toList)) := by
  have e1 : s.data.toList.length = s.size := Array.length_toList
  simp only [Rows.uptoBulk]
  omega

end Go.Proofs.Ytfnmnmjpcamkiaa
