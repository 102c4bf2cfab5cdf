/-
  Layer 27: a row of frames that is turned; insertion sort, walked.
-/
import Derived.Test.YtkoplgpobagfoaaVs
import Derived.Test.YtkoplgpobagfoaaStage
import Derived.Outline
import Derived.IntWalk
import Derived.Deep.RegionWith
import Derived.Deep.DeepCutAuto
namespace Go.Proofs.Ytkoplgpobagfoaa
open Go.RowKit
set_option linter.unusedVariables false
set_option linter.unusedSimpArgs false

/-- Block g holds these frames from its head on, perhaps more behind. -/
def RowF (w : World) (g : Nat) (L : List Fr) : Prop := ∃ ex, w.heap[g]? = some (.cells (flat L ++ ex).toArray 50 (0, 0))

theorem RowF.rng {w : World} {g : Nat} {L : List Fr} (h : RowF w g L) (i : Nat) (hi : i < L.length) : w.rangeAt g (i * 4) (frCs L[i]) := by
  obtain ⟨ex, hg⟩ := h
  intro j v hv
  have hj : j < 4 := (List.getElem?_eq_some_iff.1 hv).1
  rw [cell_blk hg, List.getElem?_toArray, List.getElem?_append_left (by rw [flat_len]; omega), flat_at L i j hi hj]
  exact hv

theorem RowF.keep {F : Nat → Prop} {w w' : World} {g : Nat} {L : List Fr} (h : RowF w g L) (ht : Touch F w w') (hf : ¬ F g) : RowF w' g L := by
  obtain ⟨ex, hg⟩ := h
  exact ⟨ex, ht.heap hg hf⟩

theorem RowF.sl {w : World} {g c : Nat} {L : List Fr} (h : RowF w g L) (hc : L.length ≤ c) : FrSl w (some ⟨g, 0, none⟩) c L :=
  ⟨hc, fun i hi => ⟨g, 0, rfl, by rw [Nat.zero_add]; exact h.rng i hi⟩⟩

theorem heap_setCells_pre {g : Nat} {t : TypeId} {f : Nat × Nat} : ∀ (vs old pre post : List Value) (w : World), w.heap[g]? = some (.cells (pre ++ old ++ post).toArray t f) → old.length = vs.length → (w.setCells g pre.length vs).heap[g]? = some (.cells (pre ++ vs ++ post).toArray t f)
  | [], [], pre, post, w, h, _ => by simpa [World.setCells] using h
  | v :: r, o :: s, pre, post, w, h, hl => by
    rw [World.setCells]
    have h1 := heap_setCell_same h pre.length v
    have e : (pre ++ o :: s ++ post).toArray.setIfInBounds pre.length v = ((pre ++ [v]) ++ s ++ post).toArray := by
      apply Array.toList_inj.1
      simp [List.set_append]
    rw [e] at h1
    have := heap_setCells_pre r s (pre ++ [v]) post _ h1 (by simpa using hl)
    simpa using this
  | [], _ :: _, _, _, _, _, hl => by simp at hl
  | _ :: _, [], _, _, _, _, hl => by simp at hl

theorem flat_split (L : List Fr) (i : Nat) (h : i < L.length) : flat L = flat (L.take i) ++ frCs L[i] ++ flat (L.drop (i + 1)) := by
  conv => lhs; rw [← List.take_append_drop i L, List.drop_eq_getElem_cons h]
  rw [flat_append, show flat (L[i] :: L.drop (i + 1)) = frCs L[i] ++ flat (L.drop (i + 1)) from by unfold flat; rw [List.flatMap_cons], List.append_assoc]

theorem RowF.set {w : World} {g : Nat} {L : List Fr} (h : RowF w g L) (i : Nat) (hi : i < L.length) (x : Fr) : RowF (w.setCells g (i * 4) (frCs x)) g (L.set i x) := by
  obtain ⟨ex, hg⟩ := h
  rw [flat_split L i hi, List.append_assoc] at hg
  have hl : (flat (L.take i)).length = i * 4 := by rw [flat_len, List.length_take]; omega
  have := heap_setCells_pre (frCs x) (frCs L[i]) (flat (L.take i)) (flat (L.drop (i + 1)) ++ ex) w (by simpa using hg) rfl
  rw [hl] at this
  refine ⟨ex, ?_⟩
  rw [this]
  have hs : i < (L.set i x).length := by rw [List.length_set]; exact hi
  rw [flat_split (L.set i x) i hs, List.getElem_set_self, List.take_set_of_le (Nat.le_refl i), List.drop_set_of_lt (Nat.lt_succ_self i)]
  simp

theorem RowF.there {w : World} {g : Nat} {L : List Fr} (h : RowF w g L) (i : Nat) (hi : i < L.length) : w.there g (i * 4) 4 := by
  obtain ⟨ex, hg⟩ := h
  refine blk_there hg ?_
  rw [List.size_toArray, List.length_append, flat_len]
  omega

theorem info50 : (Try.prog.info? 50).map (·.size) = some 4 := by kernel_rfl

section
variable {a : Act} {w : World} {op : Oper} {K : Act → World → Prop} {Q : Exit → Act → World → Prop}

/-- l[i] of a row. -/
theorem run_ia22 {x y : Operand} {g n c : Nat} {z : Int} (j : Nat) (ho : op.op = .indexAddr 22 x y) (hx : a.eval x = .slice (some ⟨g, 0, none⟩) n c) (hy : a.eval y = .int .i64 z) (hz : z = (j : Int)) (h : j < n) :
    (execOp a.eval op).run Try.prog w = .ok (.value (.pointer (some ⟨g, j * 4, none⟩))) w := by
  subst hz
  have h0 : (0 : Int) ≤ (j : Int) := by omega
  have h1 : (j : Int) < (n : Int) := by omega
  unfold execOp
  simp only [ho, hx, hy]
  go_simp

theorem run_ldF {x : Operand} {g o : Nat} {f : Fr} (ho : op.op = .load 50 x) (hx : a.eval x = .pointer (some ⟨g, o, none⟩)) (hr : w.rangeAt g o (frCs f)) : (execOp a.eval op).run Try.prog w = .ok (.value (frV f)) w :=
  run_loadR (cs := frCs f) ho hx hr Try.underlying50 rfl info50

theorem wp_stF {x y : Operand} {g i : Nat} {f : Fr} {L : List Fr} (ho : op.op = .store 50 x y) (hx : a.eval x = .pointer (some ⟨g, i * 4, none⟩)) (hy : a.eval y = frV f) (hR : RowF w g L) (hi : i < L.length)
    (k : ∀ w', RowF w' g (L.set i f) → Touch (fun b => b = g) w w' → K (a.put op.dst undef) w') : op.wp Try.prog a w K Q :=
  wp_store_mid 50 x y ho g (i * 4) (frCs f).toArray hx hy (hR.there i hi) info50 (by simp [frCs, Value.oneCell']) (k _ (by simpa using hR.set i hi f) (touch_setCells _ _ _ _))

theorem run_sub {x y : Operand} {m n : Int} (z : Int) (ho : op.op = .binOp .sub 3 x y 3) (hx : a.eval x = .int .i64 m) (hy : a.eval y = .int .i64 n) (hz : m - n = z) (h0 : -9223372036854775808 ≤ z) (h1 : z ≤ 9223372036854775807) :
    (execOp a.eval op).run Try.prog w = .ok (.value (.int .i64 z)) w := by
  have e : IntKind.i64.wrap (m - n) = z := by rw [IntKind.wrap_i64]; omega
  have e2 : IntKind.i64.wrap z = z := by rw [IntKind.wrap_i64]; omega
  unfold execOp
  simp only [ho, hx, hy]
  go_simp
  all_goals first | (rw [e]; done) | exact e2 | skip

theorem run_gtr {x y : Operand} {m n : Int} (b : Bool) (ho : op.op = .binOp .gtr 3 x y 3) (hx : a.eval x = .int .i64 m) (hy : a.eval y = .int .i64 n) (hb : decide (n < m) = b) :
    (execOp a.eval op).run Try.prog w = .ok (.value (.bool b)) w := by
  subst hb
  unfold execOp
  simp only [ho, hx, hy]
  go_simp
  all_goals first | rfl | (simp; done) | skip

theorem run_lss {x y : Operand} {m n : Int} (b : Bool) (ho : op.op = .binOp .lss 3 x y 3) (hx : a.eval x = .int .i64 m) (hy : a.eval y = .int .i64 n) (hb : decide (m < n) = b) :
    (execOp a.eval op).run Try.prog w = .ok (.value (.bool b)) w := by
  subst hb
  unfold execOp
  simp only [ho, hx, hy]
  go_simp
  all_goals first | rfl | (simp; done) | skip

theorem run_pick {x y z : Operand} {b : Bool} {v : Value} (ho : op.op = .pick x y z) (hx : a.eval x = .bool b) (hv : (if b = true then a.eval y else a.eval z) = v) :
    (execOp a.eval op).run Try.prog w = .ok (.value v) w := by
  have e : (asBool (.bool b)).run Try.prog w = .ok b w := rfl
  subst hv
  unfold execOp
  simp only [ho, hx, Sem.run_bind, e, Result.andThen_ok, Sem.run_pure]
end

section
variable {a : Act} {w : World} {ops : Array Oper} {Q : Exit → Act → World → Prop} {op : Oper} {md : Region.Mode} {S : World → Prop} {l : Array Bool} {f : Nat}
theorem g_read {i : Nat} {v : Value} {tl : List Oper} (hi : ops.toList.drop i = op :: tl) (hs : Region.noSelect ops = true) (hf : Region.free md ops l i = true) (hr : (Region.ready md ops l).contains i = true)
    (hwt : waitB md ops i = true) (hn : noStB ops l = true) (hw : Region.wanted op (yielded ops a.tmps) = true) (hQ : ∀ c a w, Q (.panic c) (a.put op.dst v) w → Q (.panic c) a w) (h : ∀ w, S w → (execOp a.eval op).run Try.prog w = .ok (.value v) w) (hS : S w)
    (k : AnyG Try.prog md ops Q S f (l.setIfInBounds i true) (a.put op.dst v) w) : AnyG Try.prog md ops Q S (f + 1) l a w :=
  AnyG.read (op_at hi) hs hf hr hwt hn hQ (Or.inl ⟨hw, h⟩) hS k
theorem g_pure {i : Nat} {v : Value} {tl : List Oper} (hi : ops.toList.drop i = op :: tl) (hs : Region.noSelect ops = true) (hf : Region.free md ops l i = true) (hr : (Region.ready md ops l).contains i = true)
    (hst : storeAt ops i = false) (hw : Region.wanted op (yielded ops a.tmps) = true) (hQ : ∀ c a w, Q (.panic c) (a.put op.dst v) w → Q (.panic c) a w) (h : ∀ w, (execOp a.eval op).run Try.prog w = .ok (.value v) w) (hS : noSt ops l → S w)
    (k : AnyG Try.prog md ops Q S f (l.setIfInBounds i true) (a.put op.dst v) w) : AnyG Try.prog md ops Q S (f + 1) l a w :=
  AnyG.pure (op_at hi) hs hf hr hst hQ (Or.inl ⟨hw, fun w _ => h w⟩) hS k
theorem g_late {i : Nat} {v : Value} {tl : List Oper} (hi : ops.toList.drop i = op :: tl) (hs : Region.noSelect ops = true) (hf : Region.free md ops l i = true) (hr : (Region.ready md ops l).contains i = true)
    (hst : storeAt ops i = false) (hw : Region.wanted op (yielded ops a.tmps) = true) (hQ : ∀ c a w, Q (.panic c) (a.put op.dst v) w → Q (.panic c) a w) (h : ∀ w, (execOp a.eval op).run Try.prog w = .ok (.value v) w) (hn : noStB ops l = false)
    (k : AnyG Try.prog md ops Q S f (l.setIfInBounds i true) (a.put op.dst v) w) : AnyG Try.prog md ops Q S (f + 1) l a w :=
  AnyG.late (op_at hi) hs hf hr hst hQ (Or.inl ⟨hw, fun w _ => h w⟩) hn k
theorem g_store {i : Nat} {tl : List Oper} (hr : Region.ready md ops l = [i]) (hst : (storeAt ops i && decide (i < l.size)) = true) (hi : ops.toList.drop i = op :: tl) (hw : Region.wanted op (yielded ops a.tmps) = true)
    (h : ∀ K : Act → World → Prop, (∀ a w, AnyG Try.prog md ops Q S f (l.setIfInBounds i true) a w → K a w) → op.wp Try.prog a w K Q) : AnyG Try.prog md ops Q S (f + 1) l a w :=
  AnyG.store hr hst (op_at hi) fun K hK => by
    rw [if_pos hw]
    exact h K fun a w q => hK a w q
end

end Go.Proofs.Ytkoplgpobagfoaa
