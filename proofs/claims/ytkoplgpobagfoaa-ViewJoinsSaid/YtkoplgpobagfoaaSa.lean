/-
  Stable orders of frames, without the program: what a stable rearrangement is, that there is just one that goes up, and that insertion makes it.
-/
import Derived.Test.YtkoplgpobagfoaaVu
namespace Go.Proofs.Ytkoplgpobagfoaa
open Go.RowKit
set_option linter.unusedVariables false
set_option linter.unusedSimpArgs false

/-- cf(x, y) < 0 is a strict weak order. -/
structure Weak (cf : Fr → Fr → Int) : Prop where
  asy : ∀ x y, cf x y < 0 → ¬ cf y x < 0
  ntr : ∀ x y z, ¬ cf x y < 0 → ¬ cf y z < 0 → ¬ cf x z < 0

def eqv (cf : Fr → Fr → Int) (z x : Fr) : Bool := !decide (cf z x < 0) && !decide (cf x z < 0)
/-- These frames go up. -/
def Srd (cf : Fr → Fr → Int) (X : List Fr) : Prop := X.Pairwise fun x y => ¬ cf y x < 0
/-- Z holds what X holds, and those of like weight in the same order. -/
def St (cf : Fr → Fr → Int) (X Z : List Fr) : Prop := X.length = Z.length ∧ ∀ z, X.filter (eqv cf z) = Z.filter (eqv cf z)

section
variable {cf : Fr → Fr → Int}

theorem Weak.irr (h : Weak cf) (x : Fr) : ¬ cf x x < 0 := fun q => h.asy x x q q
theorem eqv_self (h : Weak cf) (x : Fr) : eqv cf x x = true := by simp [eqv, h.irr x]
theorem eqv_iff {z x : Fr} : eqv cf z x = true ↔ ¬ cf z x < 0 ∧ ¬ cf x z < 0 := by simp [eqv]

theorem St.refl (X : List Fr) : St cf X X := ⟨rfl, fun _ => rfl⟩
theorem St.symm {X Z : List Fr} (h : St cf X Z) : St cf Z X := ⟨h.1.symm, fun z => (h.2 z).symm⟩
theorem St.trans {X Y Z : List Fr} (h : St cf X Y) (k : St cf Y Z) : St cf X Z := ⟨h.1.trans k.1, fun z => (h.2 z).trans (k.2 z)⟩
theorem St.append {X Z X' Z' : List Fr} (h : St cf X Z) (k : St cf X' Z') : St cf (X ++ X') (Z ++ Z') :=
  ⟨by rw [List.length_append, List.length_append, h.1, k.1], fun z => by rw [List.filter_append, List.filter_append, h.2 z, k.2 z]⟩
theorem St.mem (hw : Weak cf) {X Z : List Fr} (h : St cf X Z) {x : Fr} (hx : x ∈ X) : x ∈ Z := by
  have : x ∈ X.filter (eqv cf x) := List.mem_filter.2 ⟨hx, eqv_self hw x⟩
  rw [h.2 x] at this
  exact (List.mem_filter.1 this).1

/-- Two stretches change places, each of the second below each of the first. -/
theorem St.swap (hw : Weak cf) {u v : List Fr} (h : ∀ x ∈ u, ∀ y ∈ v, cf y x < 0) : St cf (u ++ v) (v ++ u) := by
  refine ⟨by simp [Nat.add_comm], fun z => ?_⟩
  rw [List.filter_append, List.filter_append]
  by_cases hu : u.filter (eqv cf z) = []
  · rw [hu]; simp
  · have hv : v.filter (eqv cf z) = [] := by
      rw [List.filter_eq_nil_iff]
      intro y hy hz
      obtain ⟨x, hx⟩ := List.exists_mem_of_ne_nil _ hu
      obtain ⟨hx1, hx2⟩ := List.mem_filter.1 hx
      have hlt := h x hx1 y hy
      have a := eqv_iff.1 hx2
      have b := eqv_iff.1 hz
      exact hw.ntr y z x b.2 a.1 hlt
    rw [hv]; simp

theorem Srd.append {X Z : List Fr} (h : Srd cf X) (k : Srd cf Z) (hc : ∀ x ∈ X, ∀ y ∈ Z, ¬ cf y x < 0) : Srd cf (X ++ Z) := List.pairwise_append.2 ⟨h, k, hc⟩
theorem Srd.left {X Z : List Fr} (h : Srd cf (X ++ Z)) : Srd cf X := (List.pairwise_append.1 h).1
theorem Srd.right {X Z : List Fr} (h : Srd cf (X ++ Z)) : Srd cf Z := (List.pairwise_append.1 h).2.1
theorem Srd.cross {X Z : List Fr} (h : Srd cf (X ++ Z)) : ∀ x ∈ X, ∀ y ∈ Z, ¬ cf y x < 0 := (List.pairwise_append.1 h).2.2

theorem srd_uniq (hw : Weak cf) : ∀ (X Z : List Fr), Srd cf X → Srd cf Z → St cf X Z → X = Z
  | [], Z, _, _, h => by
    have := h.1
    simp at this
    exact (List.eq_nil_of_length_eq_zero this.symm).symm
  | x :: X, [], _, _, h => by have := h.1; simp at this
  | x :: X, y :: Z, hX, hZ, h => by
    have hx := List.pairwise_cons.1 hX
    have hz := List.pairwise_cons.1 hZ
    have m1 : y ∈ x :: X := h.symm.mem hw (by simp)
    have m2 : x ∈ y :: Z := h.mem hw (by simp)
    have n1 : ¬ cf y x < 0 := by
      rcases List.mem_cons.1 m1 with rfl | m1
      · exact hw.irr _
      · exact hx.1 y m1
    have n2 : ¬ cf x y < 0 := by
      rcases List.mem_cons.1 m2 with rfl | m2
      · exact hw.irr _
      · exact hz.1 x m2
    have e := h.2 x
    have hxy : eqv cf x y = true := eqv_iff.2 ⟨n2, n1⟩
    rw [List.filter_cons_of_pos (eqv_self hw x), List.filter_cons_of_pos hxy] at e
    have exy : x = y := (List.cons.inj e).1
    subst exy
    have hst : St cf X Z := by
      refine ⟨by have := h.1; simpa using this, fun z => ?_⟩
      have ez := h.2 z
      by_cases hq : eqv cf z x = true
      · rw [List.filter_cons_of_pos hq, List.filter_cons_of_pos hq] at ez
        exact (List.cons.inj ez).2
      · rw [List.filter_cons_of_neg hq, List.filter_cons_of_neg hq] at ez
        exact ez
    rw [srd_uniq hw X Z hx.2 hz.2 hst]

/-- Two places change what they hold. -/
theorem exch (P : List Fr) (x : Fr) (Q : List Fr) (y : Fr) (S : List Fr) : ((P ++ x :: (Q ++ y :: S)).set (P.length + 1 + Q.length) x).set P.length y = P ++ y :: (Q ++ x :: S) := by
  rw [List.set_append_right _ _ (by omega), show P.length + 1 + Q.length - P.length = Q.length + 1 by omega, List.set_cons_succ, List.set_append_right _ _ (Nat.le_refl _), Nat.sub_self, List.set_cons_zero, List.set_append_right _ _ (Nat.le_refl _), Nat.sub_self, List.set_cons_zero]
theorem exch2 (P : List Fr) (x : Fr) (Q : List Fr) (y : Fr) (S : List Fr) : ((P ++ x :: (Q ++ y :: S)).set P.length y).set (P.length + 1 + Q.length) x = P ++ y :: (Q ++ x :: S) := by
  rw [List.set_comm _ _ (by omega), exch]
theorem at_left (P : List Fr) (x : Fr) (S : List Fr) : (P ++ x :: S)[P.length]? = some x := by rw [List.getElem?_append_right (Nat.le_refl _), Nat.sub_self]; rfl
theorem at_right (P : List Fr) (x : Fr) (Q : List Fr) (y : Fr) (S : List Fr) : (P ++ x :: (Q ++ y :: S))[P.length + 1 + Q.length]? = some y := by
  rw [List.getElem?_append_right (by omega), show P.length + 1 + Q.length - P.length = Q.length + 1 by omega, List.getElem?_cons_succ, List.getElem?_append_right (Nat.le_refl _), Nat.sub_self]; rfl

/-! ### Insertion -/

theorem sink_st (hw : Weak cf) (A : List Fr) (x : Fr) : ∀ (n : Nat) (s D : List Fr), s.length = n → Srd cf s → ∃ Z, sink cf A.length (A.length + n) (A ++ (s ++ x :: D)) = A ++ (Z ++ D) ∧ Srd cf Z ∧ St cf (s ++ [x]) Z := by
  intro n
  induction n with
  | zero =>
    intro s D hs _
    obtain rfl := List.eq_nil_of_length_eq_zero hs
    refine ⟨[x], ?_, List.pairwise_singleton _ _, St.refl _⟩
    cases hA : A.length with
    | zero => rfl
    | succ k => rw [Nat.add_zero, sink, if_neg (by omega)]; rfl
  | succ n ih =>
    intro s D hs hsr
    obtain ⟨s', y, rfl⟩ : ∃ s' y, s = s' ++ [y] := ⟨s.dropLast, s.getLast (by intro e; subst e; simp at hs), (List.dropLast_concat_getLast _).symm⟩
    have hs' : s'.length = n := by simpa using hs
    have eY : A ++ ((s' ++ [y]) ++ x :: D) = (A ++ s') ++ y :: ([] ++ x :: D) := by simp
    have hl : (A ++ s').length = A.length + n := by rw [List.length_append, hs']
    have g1 : (A ++ ((s' ++ [y]) ++ x :: D))[A.length + n + 1]? = some x := by
      rw [eY]
      have := at_right (A ++ s') y [] x D
      rw [hl] at this
      exact this
    have g0 : (A ++ ((s' ++ [y]) ++ x :: D))[A.length + n]? = some y := by
      rw [eY]
      have := at_left (A ++ s') y ([] ++ x :: D)
      rw [hl] at this
      exact this
    have hla : lessAt cf (A ++ ((s' ++ [y]) ++ x :: D)) (A.length + n + 1) = decide (cf x y < 0) := by
      unfold lessAt
      rw [g1, show A.length + n + 1 - 1 = A.length + n from rfl, g0]
    have hsw : sw (A ++ ((s' ++ [y]) ++ x :: D)) (A.length + n + 1) = A ++ (s' ++ x :: (y :: D)) := by
      unfold sw
      rw [g1, show A.length + n + 1 - 1 = A.length + n from rfl, g0]
      simp only []
      rw [eY]
      have := exch (A ++ s') y [] x D
      rw [hl] at this
      rw [show A.length + n + 1 = A.length + n + 1 + ([] : List Fr).length from rfl, this]
      simp
    rw [← Nat.add_assoc, sink]
    by_cases hxy : cf x y < 0
    · rw [if_pos ⟨by omega, by rw [hla]; exact decide_eq_true hxy⟩, hsw]
      obtain ⟨Z, hZ, hZs, hZt⟩ := ih s' (y :: D) hs' hsr.left
      refine ⟨Z ++ [y], ?_, ?_, ?_⟩
      · rw [hZ]; simp
      · refine hZs.append (List.pairwise_singleton _ _) fun p hp q hq => ?_
        obtain rfl : q = y := by simpa using hq
        have hp2 := hZt.symm.mem hw hp
        rcases List.mem_append.1 hp2 with h | h
        · exact hsr.cross p h q (by simp)
        · obtain rfl : p = x := by simpa using h
          exact hw.asy _ _ hxy
      · have e1 : St cf ([y] ++ [x]) ([x] ++ [y]) := St.swap hw (by intro p hp q hq; simp at hp hq; subst hp hq; exact hxy)
        have e2 : St cf (s' ++ ([y] ++ [x])) (s' ++ ([x] ++ [y])) := (St.refl s').append e1
        have e3 : St cf ((s' ++ [x]) ++ [y]) (Z ++ [y]) := hZt.append (St.refl [y])
        rw [List.append_assoc] at e3 ⊢
        exact e2.trans e3
    · rw [if_neg (by rw [hla]; simp [hxy])]
      refine ⟨(s' ++ [y]) ++ [x], by simp, ?_, St.refl _⟩
      refine hsr.append (List.pairwise_singleton _ _) fun p hp q hq => ?_
      obtain rfl : q = x := by simpa using hq
      rcases List.mem_append.1 hp with h | h
      · exact hw.ntr _ _ _ hxy (hsr.cross p h y (by simp))
      · obtain rfl : p = y := by simpa using h
        exact hxy

theorem ins_st (hw : Weak cf) (A : List Fr) : ∀ (r s D : List Fr), Srd cf s → ∃ Z, ins cf A.length r.length (A.length + s.length) (A ++ (s ++ (r ++ D))) = A ++ (Z ++ D) ∧ Srd cf Z ∧ St cf (s ++ r) Z := by
  intro r
  induction r with
  | nil => intro s D hs; exact ⟨s, rfl, hs, by rw [List.append_nil]; exact St.refl _⟩
  | cons x r ih =>
    intro s D hs
    obtain ⟨Z, hZ, hZs, hZt⟩ := sink_st hw A x s.length s (r ++ D) rfl hs
    have hl : Z.length = s.length + 1 := by have := hZt.1; simp at this; omega
    obtain ⟨Z2, h1, h2, h3⟩ := ih Z D hZs
    refine ⟨Z2, ?_, h2, ?_⟩
    · rw [List.length_cons, ins]
      have e : A ++ (s ++ (x :: r ++ D)) = A ++ (s ++ x :: (r ++ D)) := rfl
      rw [e, hZ, Nat.add_assoc, ← hl]
      exact h1
    · have := (hZt.append (St.refl r)).trans h3
      rw [List.append_assoc] at this
      exact this

theorem insS_st (hw : Weak cf) (A M D : List Fr) : ∃ Z, insS cf A.length (A.length + M.length) (A ++ (M ++ D)) = A ++ (Z ++ D) ∧ Srd cf Z ∧ St cf M Z := by
  unfold insS
  cases M with
  | nil =>
    refine ⟨[], ?_, List.Pairwise.nil, St.refl _⟩
    rw [show A.length + ([] : List Fr).length - (A.length + 1) = 0 by simp]
    rfl
  | cons x r =>
    obtain ⟨Z, h1, h2, h3⟩ := ins_st hw A r [x] D (List.pairwise_singleton _ _)
    refine ⟨Z, ?_, h2, h3⟩
    rw [show A.length + (x :: r).length - (A.length + 1) = r.length by simp; omega]
    exact h1

/-- What goes up and is stable is what insertion makes. -/
theorem st_insS (hw : Weak cf) {M X : List Fr} (h : Srd cf X) (k : St cf M X) : X = insS cf 0 M.length M := by
  obtain ⟨Z, h1, h2, h3⟩ := insS_st (cf := cf) hw [] M []
  simp only [List.length_nil, Nat.zero_add, List.nil_append, List.append_nil] at h1
  rw [h1]
  exact srd_uniq hw X Z h h2 (k.symm.trans h3)

end

end Go.Proofs.Ytkoplgpobagfoaa
