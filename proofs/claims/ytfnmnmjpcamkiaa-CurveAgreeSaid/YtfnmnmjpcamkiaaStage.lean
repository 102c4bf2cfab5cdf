/-
  A region that draws its order, reads first and stores last: a condition S on the world is kept up to the first store, and no further. Reads may then be taken in the order of the text though the stores hit what was read.
-/
import Derived.OrdersHeld
import Derived.Deep.RegionHeld
import Derived.KernelRfl
namespace Go.Proofs.Ytfnmnmjpcamkiaa
open Go

section
variable {P : Program} {ops : Array Oper} {Q : Exit → Act → World → Prop} {md : Region.Mode} {S : World → Prop}

def storeAt (ops : Array Oper) (k : Nat) : Bool := match ops[k]? with
  | some o => match o.op with | .store .. => true | _ => false
  | none => false

/-- No store has come up. -/
def noSt (ops : Array Oper) (l : Array Bool) : Prop := ∀ k, storeAt ops k = true → l.getD k false = false
def noStB (ops : Array Oper) (l : Array Bool) : Bool := (List.range ops.size).all fun k => !storeAt ops k || !l.getD k false
/-- Every store waits for number i, of its own word; number i is none. -/
def waitB (md : Region.Mode) (ops : Array Oper) (i : Nat) : Bool := !storeAt ops i && (List.range ops.size).all fun k => !storeAt ops k || match ops[k]? with
  | some o => o.after.any fun e => Region.binds md e && e.on == i
  | none => false

theorem storeAt_lt {k : Nat} (h : storeAt ops k = true) : k < ops.size := by
  unfold storeAt at h
  split at h
  · rename_i o ho; exact (Array.getElem?_eq_some_iff.1 ho).1
  · cases h

theorem noSt_of {l : Array Bool} (h : noStB ops l = true) : noSt ops l := fun k hk => by
  have := List.all_eq_true.1 h k (List.mem_range.2 (storeAt_lt hk))
  rw [hk] at this
  simpa using this

theorem wait_of {i : Nat} (h : waitB md ops i = true) : storeAt ops i = false ∧ ∀ k o, storeAt ops k = true → ops[k]? = some o → ∃ e ∈ o.after, Region.binds md e = true ∧ e.on = i := by
  unfold waitB at h
  rw [Bool.and_eq_true] at h
  refine ⟨by simpa using h.1, fun k o hk ho => ?_⟩
  have := List.all_eq_true.1 h.2 k (List.mem_range.2 (storeAt_lt hk))
  rw [hk, ho] at this
  simp only [Bool.not_true, Bool.false_or] at this
  obtain ⟨e, he, hb⟩ := Array.any_eq_true'.1 this
  simp only [Bool.and_eq_true, beq_iff_eq] at hb
  exact ⟨e, he, hb.1, hb.2⟩

theorem noSt_set {l : Array Bool} {i : Nat} (hi : storeAt ops i = false) : noSt ops (l.setIfInBounds i true) ↔ noSt ops l := by
  have key : ∀ k, storeAt ops k = true → (l.setIfInBounds i true).getD k false = l.getD k false := fun k hk => by
    have hne : i ≠ k := fun e => by rw [e, hk] at hi; cases hi
    exact getD_set_ne false hne
  exact ⟨fun h k hk => by rw [← key k hk]; exact h k hk, fun h k hk => by rw [key k hk]; exact h k hk⟩

/-- Whatever order is picked, S holds as long as no store has come up. -/
def AnyG (P : Program) (md : Region.Mode) (ops : Array Oper) (Q : Exit → Act → World → Prop) (S : World → Prop) : Nat → Array Bool → Act → World → Prop
  | 0, l, a, w => Region.ready md ops l = [] ∧ Q .normal a w
  | f + 1, l, a, w => (Region.ready md ops l = [] → Q .normal a w) ∧
    ∀ i ∈ Region.ready md ops l, wpOp P ops Q i (fun a' w' => (noSt ops (l.setIfInBounds i true) → S w') ∧ AnyG P md ops Q S f (l.setIfInBounds i true) a' w') a w

theorem AnyG.any : ∀ (f : Nat) (l : Array Bool) (a : Act) (w : World), AnyG P md ops Q S f l a w → wpAny P md ops Q f l a w
  | 0, _, _, _, h => h
  | f + 1, _, _, _, h => ⟨h.1, fun i hi => wpOp_mono (fun a' w' h' => AnyG.any f _ a' w' h'.2) (h.2 i hi)⟩

theorem AnyG.first {T : World → Prop} {i : Nat} {oi : Oper} {v : Value} (hi : ops[i]? = some oi) (hsel : ∀ (j : Nat) (o : Oper) cs b, ops[j]? = some o → o.op ≠ .select cs b)
    (hQ : ∀ c a w, Q (.panic c) (a.put oi.dst v) w → Q (.panic c) a w) (hst : storeAt ops i = false) (M : Array Bool → World → Prop) (hMT : ∀ l w, M l w → T w) (hMS : ∀ l w, M l w → noSt ops l → S w)
    (hstep : ∀ l w j oj w', M l w → ops[j]? = some oj → j ≠ i → (∀ e ∈ oj.after, Region.binds md e = true → e.on ≠ i) → (noSt ops (l.setIfInBounds j true) → S w') → M (l.setIfInBounds j true) w') :
    ∀ (f : Nat) (l : Array Bool) (a : Act) (w : World),
      (∀ j oj, ops[j]? = some oj → j ≠ i → l.getD j true = false → (∀ e ∈ oj.after, Region.binds md e = true → e.on ≠ i) → oi.apart ops oj = true) →
      i ∈ Region.ready md ops l → YieldsIf P ops T oi v a → M l w → AnyG P md ops Q S f (l.setIfInBounds i true) (a.put oi.dst v) w → AnyG P md ops Q S (f + 1) l a w := by
  intro f
  induction f with
  | zero =>
    intro l a w _ hr hy hm H
    refine ⟨fun h => (by rw [h] at hr; cases hr), fun j hj => ?_⟩
    by_cases e : j = i
    · subst e
      exact hy.wpOp hi (hMT _ _ hm) ⟨fun h => hMS _ _ hm ((noSt_set hst).1 h), H⟩
    · have := ready_mono hj e
      rw [H.1] at this; cases this
  | succ f ih =>
    intro l a w hfree hr hy hm H
    refine ⟨fun h => (by rw [h] at hr; cases hr), fun j hj => ?_⟩
    by_cases e : j = i
    · subst e
      exact hy.wpOp hi (hMT _ _ hm) ⟨fun h => hMS _ _ hm ((noSt_set hst).1 h), H⟩
    · have h1 := H.2 j (ready_mono hj e)
      obtain ⟨hun, oj, hoj, hall⟩ := mem_ready.1 hj
      have hiun := (mem_ready.1 hr).1
      have hno : ∀ x ∈ oj.after, Region.binds md x = true → x.on ≠ i := fun x hx hb hon => by
        have q := hall x hx hb
        rw [hon] at q
        rcases Nat.lt_or_ge i l.size with h' | h'
        · simp [h'] at hiun q; rw [hiun] at q; cases q
        · simp [Array.getElem?_eq_none h'] at q
      have h2 := wpOp_putIf hoj (hfree j oj hoj e hun hno) (fun cs b => hsel i oi cs b hi) (fun cs b => hsel j oj cs b hoj) hQ hy h1
      refine wpOp_mono (fun a' w' h3 => ?_) h2
      have hS : noSt ops (l.setIfInBounds j true) → S w' := fun h => h3.2.1 (by rw [Array.setIfInBounds_comm _ _ (Ne.symm e)]; exact (noSt_set hst).2 h)
      refine ⟨hS, ih (l.setIfInBounds j true) a' w' (fun k ok hk hki hu hn => hfree k ok hk hki ?_ hn) (ready_mono hr (Ne.symm e)) h3.1 (hstep l w j oj w' hm hoj e hno hS) ?_⟩
      · by_cases hjk : j = k
        · subst hjk; exact hun
        · rw [getD_set_ne true hjk] at hu; exact hu
      · rw [Array.setIfInBounds_comm _ _ e]
        exact h3.2.2

/-- A read is taken first. -/
theorem AnyG.read {i : Nat} {oi : Oper} {v : Value} {f : Nat} {l : Array Bool} {a : Act} {w : World} (hi : ops[i]? = some oi) (hs : Region.noSelect ops = true) (hf : Region.free md ops l i = true) (hr : (Region.ready md ops l).contains i = true)
    (hwt : waitB md ops i = true) (hn : noStB ops l = true) (hQ : ∀ c a w, Q (.panic c) (a.put oi.dst v) w → Q (.panic c) a w) (hy : YieldsIf P ops S oi v a) (hS : S w)
    (h : AnyG P md ops Q S f (l.setIfInBounds i true) (a.put oi.dst v) w) : AnyG P md ops Q S (f + 1) l a w := by
  obtain ⟨hst, hw⟩ := wait_of hwt
  refine AnyG.first hi (Region.noSelect_spec hs) hQ hst (fun l w => noSt ops l ∧ S w) (fun _ _ h => h.2) (fun _ _ h _ => h.2) (fun l w j oj w' hm hoj hji hno hS' => ?_) f l a w (Region.free_spec hi hf) (by simpa using hr) hy ⟨noSt_of hn, hS⟩ h
  have hj : storeAt ops j = false := by
    cases hq : storeAt ops j with
    | false => rfl
    | true =>
      obtain ⟨e, he, hb, hon⟩ := hw j oj hq hoj
      exact absurd hon (hno e he hb)
  have h1 := (noSt_set hj).2 hm.1
  exact ⟨h1, hS' h1⟩

/-- What yields in whatever world is taken first. -/
theorem AnyG.pure {i : Nat} {oi : Oper} {v : Value} {f : Nat} {l : Array Bool} {a : Act} {w : World} (hi : ops[i]? = some oi) (hs : Region.noSelect ops = true) (hf : Region.free md ops l i = true) (hr : (Region.ready md ops l).contains i = true)
    (hst : storeAt ops i = false) (hQ : ∀ c a w, Q (.panic c) (a.put oi.dst v) w → Q (.panic c) a w) (hy : YieldsIf P ops (fun _ => True) oi v a) (hS : noSt ops l → S w)
    (h : AnyG P md ops Q S f (l.setIfInBounds i true) (a.put oi.dst v) w) : AnyG P md ops Q S (f + 1) l a w :=
  AnyG.first hi (Region.noSelect_spec hs) hQ hst (fun l w => noSt ops l → S w) (fun _ _ _ => trivial) (fun _ _ h => h) (fun l w j oj w' hm hoj hji hno hS' => hS') f l a w (Region.free_spec hi hf) (by simpa using hr) hy hS h

theorem noSt_to {l : Array Bool} (h : noSt ops l) : noStB ops l = true := by
  unfold noStB
  rw [List.all_eq_true]
  intro k hk
  cases hq : storeAt ops k with
  | false => rfl
  | true => rw [h k hq]; rfl

/-- .. behind a store too. -/
theorem AnyG.late {i : Nat} {oi : Oper} {v : Value} {f : Nat} {l : Array Bool} {a : Act} {w : World} (hi : ops[i]? = some oi) (hs : Region.noSelect ops = true) (hf : Region.free md ops l i = true) (hr : (Region.ready md ops l).contains i = true)
    (hst : storeAt ops i = false) (hQ : ∀ c a w, Q (.panic c) (a.put oi.dst v) w → Q (.panic c) a w) (hy : YieldsIf P ops (fun _ => True) oi v a) (hn : noStB ops l = false)
    (h : AnyG P md ops Q S f (l.setIfInBounds i true) (a.put oi.dst v) w) : AnyG P md ops Q S (f + 1) l a w :=
  AnyG.pure hi hs hf hr hst hQ hy (fun hno => by have := noSt_to hno; rw [hn] at this; cases this) h

/-- One operation alone may come up. -/
theorem AnyG.one {i : Nat} {o : Oper} {f : Nat} {l : Array Bool} {a : Act} {w : World} (hr : Region.ready md ops l = [i]) (ho : ops[i]? = some o)
    (h : ∀ K' : Act → World → Prop, Shut (∀ a w, (noSt ops (l.setIfInBounds i true) → S w) → AnyG P md ops Q S f (l.setIfInBounds i true) a w → K' a w) → if Region.wanted o (yielded ops a.tmps) = true then Oper.wp P o a w K' Q else K' (a.put o.dst undef) w) :
    AnyG P md ops Q S (f + 1) l a w := by
  refine ⟨fun q => (by rw [hr] at q; cases q), fun j hj => ?_⟩
  rw [hr] at hj
  obtain rfl := List.mem_singleton.1 hj
  exact wpOp_step ho fun K' hK => h K' fun a w h1 h2 => hK a w ⟨h1, h2⟩

/-- A store alone may come up: S is asked no more. -/
theorem AnyG.store {i : Nat} {o : Oper} {f : Nat} {l : Array Bool} {a : Act} {w : World} (hr : Region.ready md ops l = [i]) (hst : (storeAt ops i && decide (i < l.size)) = true) (ho : ops[i]? = some o)
    (h : ∀ K' : Act → World → Prop, Shut (∀ a w, AnyG P md ops Q S f (l.setIfInBounds i true) a w → K' a w) → if Region.wanted o (yielded ops a.tmps) = true then Oper.wp P o a w K' Q else K' (a.put o.dst undef) w) :
    AnyG P md ops Q S (f + 1) l a w := by
  rw [Bool.and_eq_true, decide_eq_true_eq] at hst
  refine AnyG.one hr ho fun K' hK => h K' fun a w h1 => hK a w (fun hn => ?_) h1
  have := hn i hst.1
  simp [hst.2] at this

theorem AnyG.done {l : Array Bool} {a : Act} {w : World} (hr : Region.ready md ops l = []) (h : Q .normal a w) : ∀ f, AnyG P md ops Q S f l a w
  | 0 => ⟨hr, h⟩
  | _ + 1 => ⟨fun _ => h, by rw [hr]; simp⟩

/-- The beginning. -/
theorem wp_region_stage {id : Nat} {a : Act} {w : World} (hm : P.follows .mixedOrders = true) (h : AnyG P .any ops Q S ops.size (Array.replicate ops.size false) a w.drew) : (Code.region id ops true).wp P Q a w :=
  wp_region_any hm (AnyG.any _ _ _ _ h)

end
end Go.Proofs.Ytfnmnmjpcamkiaa
