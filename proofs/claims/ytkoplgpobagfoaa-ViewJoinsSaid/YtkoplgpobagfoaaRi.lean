/-
  Layer 27: for the document's Links: appends of links, what a list of links stays within.
-/
import Derived.Test.YtkoplgpobagfoaaLq
namespace Go.Proofs.Ytkoplgpobagfoaa
open Go.RowKit
set_option linter.unusedVariables false
set_option linter.unusedSimpArgs false

theorem run_f50o {a : Act} {w : World} {op : Oper} {x : Operand} {g o : Nat} (k : Nat) (ho : op.op = .fieldAddr 50 x k) (hx : a.eval x = .pointer (some ⟨g, o, none⟩)) (hk : k < 4) : (execOp a.eval op).run Try.prog w = .ok (.value (.pointer (some ⟨g, o + k, none⟩))) w := by
  have hc : k = 0 ∨ k = 1 ∨ k = 2 ∨ k = 3 := by omega
  unfold execOp
  rcases hc with rfl | rfl | rfl | rfl
  all_goals
    simp only [ho, hx]
    go_simp

/-- out[k:] of a row. -/
theorem run_sl24 {a : Act} {w : World} {op : Oper} {x y : Operand} {g m c : Nat} {z : Int} (k : Nat) (ho : op.op = .slice 24 x (some y) none none) (hx : a.eval x = .slice (some ⟨g, 0, none⟩) m c) (hy : a.eval y = .int .i64 z) (hz : z = (k : Int)) (hk : k ≤ m) (hm : m ≤ c) (hc : k ≠ c) :
    (execOp a.eval op).run Try.prog w = .ok (.value (.slice (some ⟨g, k * 4, none⟩) (m - k) (c - k))) w := by
  subst hz
  have k0 : (0 : Int) ≤ (k : Int) := by omega
  have k1 : (k : Int) ≤ (m : Int) := by omega
  have k2 : (m : Int) ≤ (c : Int) := by omega
  have k4 : ¬ c = k := by omega
  unfold execOp
  simp only [ho, hx, hy, Option.map_some, Option.map_none, Option.mapM_some, Option.mapM_none]
  go_simp
theorem run_sl24e {a : Act} {w : World} {op : Oper} {x y : Operand} {g c : Nat} {z : Int} (ho : op.op = .slice 24 x (some y) none none) (hx : a.eval x = .slice (some ⟨g, 0, none⟩) c c) (hy : a.eval y = .int .i64 z) (hz : z = (c : Int)) :
    (execOp a.eval op).run Try.prog w = .ok (.value (.slice (some ⟨g, 0, none⟩) 0 0)) w := by
  subst hz
  have k0 : (0 : Int) ≤ (c : Int) := by omega
  unfold execOp
  simp only [ho, hx, hy, Option.map_some, Option.map_none, Option.mapM_some, Option.mapM_none]
  go_simp

/-- append of links that are read to a row of one's own. -/
theorem wp_appKS {o : Oper} {a : Act} {w w0 : World} {K : Act → World → Prop} {Q : Exit → Act → World → Prop} (s x : Operand)
    (ho : o.op = .call { callee := .builtin .append, args := #[s, x], argTypes := #[24, 24] }) {v y : Value} {L M : List Fr} (hs : a.eval s = v) (hO : OwnK w0 w v L) (hx : a.eval x = y) (hy : FrA w y M)
    (ht : Touch Nothing w0 w) (hn : (L.length + M.length) * 32 ≤ 140737488355328)
    (k : ∀ v' w', OwnK w0 w' v' (L ++ M) → Touch Nothing w0 w' → Touch (fun b => v.ownBlock = some b) w w' → K (a.put o.dst v') w') : o.wp Try.prog a w K Q := by
  obtain ⟨h1, h2⟩ := hO.owns
  refine wp_app elt29 s x ho hs h1 hx hy.src rfl (zs := flat (L ++ M)) (by rw [flat_append]) (by unfold maxLen; omega) hn ?_
  intro v' w' ho' hgr hor
  have t' := ht.grown hgr (fun b hb q => by have := h2 b q; omega)
  refine k v' w' (OwnK.of (by rw [List.length_append]; exact ho') fun b hb => ?_) t' ((Touch.refl _ w).grown hgr (fun _ _ q => q))
  rcases hor with h | h
  · exact h2 b (by rw [← h]; exact hb)
  · rw [hb] at h
    obtain rfl : b = w.heap.size := by simpa using h
    exact ht.size

/-- What a list of links stays within, a frame later. -/
theorem rput_bnd {n : Nat} {out : List Fr} {x : Fr} (h : LBnd n out) : LBnd n (rput out x) := by
  intro y hy
  unfold rput at hy
  split at hy
  · exact h y hy
  · rcases List.mem_append.1 hy with q | q
    · exact h y (List.mem_of_mem_take q)
    · rcases List.mem_cons.1 q with rfl | q
      · simp only []; omega
      · exact h y (List.mem_of_mem_drop q)
theorem rput_len (out : List Fr) (x : Fr) : (rput out x).length ≤ out.length + 1 ∧ lpos x out < (rput out x).length := by
  have hk := lpos_le x out
  unfold rput
  split
  · rename_i h
    unfold isAt at h
    split at h
    · rename_i y hy
      have := (List.getElem?_eq_some_iff.1 hy).1
      omega
    · cases h
  · rw [List.length_append, List.length_take, List.length_cons, List.length_drop]
    omega
theorem radd_at (out : List Fr) (k : Nat) (x : Fr) (h : k < out.length) : radd out k x = out.set k ⟨out[k].a, out[k].f, out[k].t + 1, out[k].l + x.l⟩ := by
  unfold radd
  rw [List.getElem?_eq_getElem h]
theorem radd_bnd {n : Nat} {out : List Fr} {k : Nat} {x : Fr} (h : LBnd n out) (hx : 0 ≤ x.l ∧ x.l ≤ 65536) : LBnd (n + 1) (radd out k x) := by
  intro y hy
  unfold radd at hy
  split at hy
  · rename_i z hz
    have hz2 := h z (List.mem_of_getElem? hz)
    rcases List.mem_or_eq_of_mem_set hy with q | rfl
    · have := h y q; omega
    · simp only []; omega
  · have := h y hy; omega

/-- A row's head and what is behind it, as slices. -/
theorem OwnK.head {w0 w : World} {g c : Nat} {out : List Fr} (h : RowK w g c out) (hc : out.length ≤ c) (k : Nat) (hk : k ≤ out.length) : FrA w (.slice (some ⟨g, 0, none⟩) k c) (out.take k) := by
  have hl : (out.take k).length = k := by rw [List.length_take]; omega
  refine .inr ⟨⟨g, 0, none⟩, c, by rw [hl], by omega, fun i hi => ⟨g, 0, rfl, fun j v hv => ?_⟩⟩
  have hj : j < 4 := (List.getElem?_eq_some_iff.1 hv).1
  rw [List.getElem_take] at hv
  rw [Nat.zero_add, h.cell i j (by omega) hj]
  exact hv
theorem OwnK.rest {w : World} {g c : Nat} {out : List Fr} (h : RowK w g c out) (hc : out.length ≤ c) (k : Nat) (hk : k ≤ out.length) (c' : Nat) (hc' : out.length - k ≤ c') : FrA w (.slice (some ⟨g, k * 4, none⟩) (out.length - k) c') (out.drop k) := by
  have hl : (out.drop k).length = out.length - k := by rw [List.length_drop]
  refine .inr ⟨⟨g, k * 4, none⟩, c', by rw [hl], by omega, fun i hi => ⟨g, k * 4, rfl, fun j v hv => ?_⟩⟩
  have hj : j < 4 := (List.getElem?_eq_some_iff.1 hv).1
  rw [List.getElem_drop] at hv
  rw [show k * 4 + i * 4 + j = (k + i) * 4 + j by omega, h.cell (k + i) j (by omega) hj]
  exact hv

end Go.Proofs.Ytkoplgpobagfoaa
