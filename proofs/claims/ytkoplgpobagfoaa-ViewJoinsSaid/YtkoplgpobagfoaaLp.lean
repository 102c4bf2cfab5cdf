/-
  The links of a view, without the program: what they are, that both ways make the same, and what their sums are.
-/
import Derived.Test.YtkoplgpobagfoaaSg
import Derived.Test.YtkoplgpobagfoaaVx
import Derived.Test.YtkoplgpobagfoaaVz
namespace Go.Proofs.Ytkoplgpobagfoaa
open Go.RowKit
set_option linter.unusedVariables false
set_option linter.unusedSimpArgs false

/-- A link ahead of another one. -/
def keyLt (y z : Fr) : Prop := y.a < z.a ∨ (y.a = z.a ∧ y.f < z.f)
def onK (a f : Int) (x : Fr) : Bool := decide (x.f = a ∧ x.t = f)
def cnt (a f : Int) (P : List Fr) : Int := ((P.filter (onK a f)).length : Int)
def sml (a f : Int) (P : List Fr) : Int := ((P.filter (onK a f)).map Fr.l).sum
/-- What went on a link. -/
def lk (P : List Fr) (a f : Int) : Fr := ⟨a, f, cnt a f P, sml a f P⟩

theorem onK_iff {a f : Int} {x : Fr} : onK a f x = true ↔ x.f = a ∧ x.t = f := by simp [onK]

theorem lk_ne {P : List Fr} {x : Fr} {a f : Int} (h : ¬ (x.f = a ∧ x.t = f)) : lk (P ++ [x]) a f = lk P a f := by
  have e : onK a f x = false := by simp [onK]; simpa using h
  unfold lk cnt sml
  rw [List.filter_append]
  simp [e]
theorem lk_eq {P : List Fr} {x : Fr} {a f : Int} (h : x.f = a ∧ x.t = f) : lk (P ++ [x]) a f = ⟨a, f, (lk P a f).t + 1, (lk P a f).l + x.l⟩ := by
  have e : onK a f x = true := onK_iff.2 h
  unfold lk cnt sml
  rw [List.filter_append]
  simp [e]
theorem lk_none {P : List Fr} {a f : Int} (h : ∀ z ∈ P, ¬ (z.f = a ∧ z.t = f)) : lk P a f = ⟨a, f, 0, 0⟩ := by
  have e : P.filter (onK a f) = [] := List.filter_eq_nil_iff.2 fun z hz q => h z hz (onK_iff.1 q)
  unfold lk cnt sml
  rw [e]
  rfl

structure LinkOf (P out : List Fr) : Prop where
  up : out.Pairwise keyLt
  is : ∀ y ∈ out, y = lk P y.a y.f
  all : ∀ x ∈ P, lk P x.f x.t ∈ out
  got : ∀ y ∈ out, ∃ x ∈ P, x.f = y.a ∧ x.t = y.f

theorem keyLt.irr {y : Fr} : ¬ keyLt y y := by unfold keyLt; omega
theorem keyLt.asy {y z : Fr} (h : keyLt y z) : ¬ keyLt z y := by unfold keyLt at *; omega

theorem up_uniq : ∀ (X Z : List Fr), X.Pairwise keyLt → Z.Pairwise keyLt → (∀ y, y ∈ X ↔ y ∈ Z) → X = Z
  | [], [], _, _, _ => rfl
  | [], z :: Z, _, _, h => absurd ((h z).2 List.mem_cons_self) List.not_mem_nil
  | x :: X, [], _, _, h => absurd ((h x).1 List.mem_cons_self) List.not_mem_nil
  | x :: X, z :: Z, hX, hZ, h => by
    rw [List.pairwise_cons] at hX hZ
    have e : x = z := by
      rcases List.mem_cons.1 ((h x).1 List.mem_cons_self) with h1 | h1
      · exact h1
      · rcases List.mem_cons.1 ((h z).2 List.mem_cons_self) with h2 | h2
        · exact h2.symm
        · exact absurd (hX.1 z h2) (hZ.1 x h1).asy
    subst e
    rw [up_uniq X Z hX.2 hZ.2 fun y => ⟨fun hy => ?_, fun hy => ?_⟩]
    · rcases List.mem_cons.1 ((h y).1 (List.mem_cons_of_mem _ hy)) with h1 | h1
      · subst h1; exact absurd (hX.1 y hy) keyLt.irr
      · exact h1
    · rcases List.mem_cons.1 ((h y).2 (List.mem_cons_of_mem _ hy)) with h1 | h1
      · subst h1; exact absurd (hZ.1 y hy) keyLt.irr
      · exact h1

theorem LinkOf.uniq {P X Z : List Fr} (h : LinkOf P X) (k : LinkOf P Z) : X = Z := by
  have hm : ∀ {X Z : List Fr}, LinkOf P X → LinkOf P Z → ∀ y, y ∈ X → y ∈ Z := fun h k y hy => by
    obtain ⟨x, hx, e1, e2⟩ := h.got y hy
    have := k.all x hx
    rw [e1, e2, ← h.is y hy] at this
    exact this
  exact up_uniq X Z h.up k.up fun y => ⟨hm h k y, hm k h y⟩

theorem LinkOf.nil : LinkOf [] [] := ⟨List.Pairwise.nil, fun y h => absurd h List.not_mem_nil, fun y h => absurd h List.not_mem_nil, fun y h => absurd h List.not_mem_nil⟩

theorem LinkOf.put {P o1 o2 : List Fr} {x : Fr} (h : LinkOf P (o1 ++ o2)) (h1 : ∀ y ∈ o1, y.a < x.f ∨ (y.a = x.f ∧ y.f < x.t)) (h2 : ∀ y ∈ o2, x.f < y.a ∨ (x.f = y.a ∧ x.t < y.f)) :
    LinkOf (P ++ [x]) (o1 ++ ⟨x.f, x.t, 1, x.l⟩ :: o2) := by
  have hne : ∀ y ∈ o1 ++ o2, ¬ (x.f = y.a ∧ x.t = y.f) := fun y hy => by
    rcases List.mem_append.1 hy with q | q
    · have := h1 y q; omega
    · have := h2 y q; omega
  have hno : ∀ z ∈ P, ¬ (z.f = x.f ∧ z.t = x.t) := fun z hz q => hne _ (h.all z hz) ⟨q.1.symm, q.2.symm⟩
  have hnew : (⟨x.f, x.t, 1, x.l⟩ : Fr) = lk (P ++ [x]) x.f x.t := by rw [lk_eq ⟨rfl, rfl⟩, lk_none hno]; simp
  obtain ⟨u1, u2, u3⟩ := List.pairwise_append.1 h.up
  refine ⟨List.pairwise_append.2 ⟨u1, List.pairwise_cons.2 ⟨fun y hy => h2 y hy, u2⟩, fun y hy z hz => ?_⟩, fun y hy => ?_, fun z hz => ?_, fun y hy => ?_⟩
  · rcases List.mem_cons.1 hz with rfl | hz
    · exact h1 y hy
    · exact u3 y hy z hz
  · have hc : y ∈ o1 ++ o2 ∨ y = ⟨x.f, x.t, 1, x.l⟩ := by
      rcases List.mem_append.1 hy with q | q
      · exact .inl (List.mem_append_left _ q)
      · rcases List.mem_cons.1 q with q | q
        · exact .inr q
        · exact .inl (List.mem_append_right _ q)
    rcases hc with q | q
    · rw [lk_ne (hne y q)]; exact h.is y q
    · rw [q]; exact hnew
  · rcases List.mem_append.1 hz with q | q
    · rw [lk_ne (fun e => hno z q ⟨e.1.symm, e.2.symm⟩)]
      rcases List.mem_append.1 (h.all z q) with r | r
      · exact List.mem_append_left _ r
      · exact List.mem_append_right _ (List.mem_cons_of_mem _ r)
    · rw [List.mem_singleton.1 q, ← hnew]
      exact List.mem_append_right _ List.mem_cons_self
  · have hc : y ∈ o1 ++ o2 ∨ y = ⟨x.f, x.t, 1, x.l⟩ := by
      rcases List.mem_append.1 hy with q | q
      · exact .inl (List.mem_append_left _ q)
      · rcases List.mem_cons.1 q with q | q
        · exact .inr q
        · exact .inl (List.mem_append_right _ q)
    rcases hc with q | q
    · obtain ⟨z, hz, e⟩ := h.got y q
      exact ⟨z, List.mem_append_left _ hz, e⟩
    · exact ⟨x, List.mem_append_right _ (List.mem_singleton.2 rfl), by rw [q], by rw [q]⟩

theorem LinkOf.add {P o1 o2 : List Fr} {k x : Fr} (h : LinkOf P (o1 ++ k :: o2)) (ha : k.a = x.f) (hf : k.f = x.t) :
    LinkOf (P ++ [x]) (o1 ++ ⟨k.a, k.f, k.t + 1, k.l + x.l⟩ :: o2) := by
  obtain ⟨u1, u2, u3⟩ := List.pairwise_append.1 h.up
  rw [List.pairwise_cons] at u2
  have hk := h.is k (List.mem_append_right _ List.mem_cons_self)
  have hnew : (⟨k.a, k.f, k.t + 1, k.l + x.l⟩ : Fr) = lk (P ++ [x]) k.a k.f := by rw [lk_eq ⟨ha.symm, hf.symm⟩, ← hk]
  have hne1 : ∀ y ∈ o1, ¬ (x.f = y.a ∧ x.t = y.f) := fun y hy e => by
    have := u3 y hy k List.mem_cons_self
    unfold keyLt at this
    omega
  have hne2 : ∀ y ∈ o2, ¬ (x.f = y.a ∧ x.t = y.f) := fun y hy e => by
    have := u2.1 y hy
    unfold keyLt at this
    omega
  refine ⟨List.pairwise_append.2 ⟨u1, List.pairwise_cons.2 ⟨fun y hy => u2.1 y hy, u2.2⟩, fun y hy z hz => ?_⟩, fun y hy => ?_, fun z hz => ?_, fun y hy => ?_⟩
  · rcases List.mem_cons.1 hz with rfl | hz
    · exact u3 y hy k List.mem_cons_self
    · exact u3 y hy z (List.mem_cons_of_mem _ hz)
  · rcases List.mem_append.1 hy with q | q
    · rw [lk_ne (hne1 y q)]; exact h.is y (List.mem_append_left _ q)
    · rcases List.mem_cons.1 q with q | q
      · rw [q]; exact hnew
      · rw [lk_ne (hne2 y q)]; exact h.is y (List.mem_append_right _ (List.mem_cons_of_mem _ q))
  · by_cases e : x.f = z.f ∧ x.t = z.t
    · rw [← e.1, ← e.2, ← ha, ← hf, ← hnew]
      exact List.mem_append_right _ List.mem_cons_self
    · rw [lk_ne e]
      rcases List.mem_append.1 hz with q | q
      · rcases List.mem_append.1 (h.all z q) with r | r
        · exact List.mem_append_left _ r
        · rcases List.mem_cons.1 r with r | r
          · exact absurd ⟨by rw [← ha, ← r]; rfl, by rw [← hf, ← r]; rfl⟩ e
          · exact List.mem_append_right _ (List.mem_cons_of_mem _ r)
      · rw [List.mem_singleton.1 q] at e
        exact absurd ⟨rfl, rfl⟩ e
  · rcases List.mem_append.1 hy with q | q
    · obtain ⟨z, hz, e⟩ := h.got y (List.mem_append_left _ q)
      exact ⟨z, List.mem_append_left _ hz, e⟩
    · rcases List.mem_cons.1 q with q | q
      · exact ⟨x, List.mem_append_right _ (List.mem_singleton.2 rfl), by rw [q]; exact ha.symm, by rw [q]; exact hf.symm⟩
      · obtain ⟨z, hz, e⟩ := h.got y (List.mem_append_right _ (List.mem_cons_of_mem _ q))
        exact ⟨z, List.mem_append_left _ hz, e⟩

/-! ### The program's way -/

theorem cmpFT_iff (x y : Fr) : cmpFT x y < 0 ↔ x.f < y.f ∨ (x.f = y.f ∧ x.t < y.t) := by
  unfold cmpFT orI cmpI
  split <;> split <;> try split
  all_goals first | omega | (split <;> omega)

def LInv (P : List Fr) (p : Option Fr) (out : List Fr) : Prop := LinkOf P out ∧ p = P.getLast? ∧ ∀ k, out.getLast? = some k → ∃ q, P.getLast? = some q ∧ k.a = q.f ∧ k.f = q.t

theorem lgo_inv : ∀ (R P : List Fr) (p : Option Fr) (out : List Fr), LInv P p out → Srd cmpFT (P ++ R) → LinkOf (P ++ R) (lgo p out R)
  | [], P, p, out, h, _ => by rw [List.append_nil]; exact h.1
  | x :: R, P, p, out, ⟨h1, h2, h3⟩, hs => by
    have hs2 : Srd cmpFT ((P ++ [x]) ++ R) := by simpa using hs
    have hlow : ∀ z ∈ P, z.f < x.f ∨ (z.f = x.f ∧ z.t ≤ x.t) := fun z hz => by
      have := hs2.left.cross z hz x List.mem_cons_self
      rw [cmpFT_iff] at this
      omega
    rw [lgo, show P ++ x :: R = (P ++ [x]) ++ R by simp]
    refine lgo_inv R (P ++ [x]) (some x) _ ⟨?_, by simp, ?_⟩ hs2
    · cases hn : isNew p x with
      | true =>
        unfold lstep
        rw [if_pos rfl]
        have := LinkOf.put (o1 := out) (o2 := []) (x := x) (by simpa using h1) (fun y hy => ?_) (fun y hy => absurd hy List.not_mem_nil)
        · exact this
        · obtain ⟨z, hz, e1, e2⟩ := h1.got y hy
          have hz2 := hlow z hz
          rw [← e1, ← e2]
          rcases hq : P.getLast? with _ | q
          · rw [List.getLast?_eq_none_iff] at hq; subst hq; cases hz
          · rw [h2, hq] at hn
            have hqx : ¬ (q.f = x.f ∧ q.t = x.t) := by have h0 : ¬ q.f = x.f ∨ ¬ q.t = x.t := (by simpa [isNew] using hn); omega
            have hq2 := hlow q (List.mem_of_getLast? hq)
            obtain ⟨I, hI⟩ := List.getLast?_eq_some_iff.1 hq
            have hzq : z.f < q.f ∨ (z.f = q.f ∧ z.t ≤ q.t) := by
              rw [hI] at hz hs
              rcases List.mem_append.1 hz with r | r
              · have := Srd.cross (X := I) (Z := [q]) hs.left z r q List.mem_cons_self
                rw [cmpFT_iff] at this
                omega
              · rw [List.mem_singleton.1 r]; omega
            omega
      | false =>
        unfold lstep
        rw [if_neg (by simp)]
        rcases hq : P.getLast? with _ | q
        · rw [h2, hq] at hn; simp [isNew] at hn
        · rw [h2, hq] at hn
          have hqx : q.f = x.f ∧ q.t = x.t := by simpa [isNew] using hn
          rcases hk : out.getLast? with _ | k
          · rw [List.getLast?_eq_none_iff] at hk
            subst hk
            exact absurd (h1.all q (List.mem_of_getLast? hq)) List.not_mem_nil
          · obtain ⟨I, rfl⟩ := List.getLast?_eq_some_iff.1 hk
            obtain ⟨q', e, a1, a2⟩ := h3 k hk
            rw [hq] at e
            cases e
            simp only [List.dropLast_concat]
            have := LinkOf.add (o1 := I) (o2 := []) (k := k) (x := x) h1 (by rw [a1, hqx.1]) (by rw [a2, hqx.2])
            exact this
    · intro k hk
      refine ⟨x, by simp, ?_⟩
      cases hn : isNew p x with
      | true =>
        rw [hn] at hk
        unfold lstep at hk
        rw [if_pos rfl] at hk
        simp at hk
        rw [← hk]
        exact ⟨rfl, rfl⟩
      | false =>
        rw [hn] at hk
        unfold lstep at hk
        rw [if_neg (by simp)] at hk
        rcases hq : P.getLast? with _ | q
        · rw [h2, hq] at hn; simp [isNew] at hn
        · rw [h2, hq] at hn
          have hqx : q.f = x.f ∧ q.t = x.t := by simpa [isNew] using hn
          rcases hk2 : out.getLast? with _ | k2
          · rw [List.getLast?_eq_none_iff] at hk2
            subst hk2
            exact absurd (h1.all q (List.mem_of_getLast? hq)) List.not_mem_nil
          · obtain ⟨q', e, a1, a2⟩ := h3 k2 hk2
            rw [hq] at e
            cases e
            rw [hk2] at hk
            simp at hk
            rw [← hk]
            exact ⟨a1.trans hqx.1, a2.trans hqx.2⟩

def linksK (L : List Fr) : List Fr := lgo none [] (insS cmpFT 0 L.length L)

theorem linksK_of (L : List Fr) : LinkOf L (linksK L) := by
  obtain ⟨S, h1, h2, h3⟩ := insS_st weakFT [] L []
  simp only [List.length_nil, Nat.zero_add, List.nil_append, List.append_nil] at h1
  have h := lgo_inv S [] none [] ⟨LinkOf.nil, rfl, fun k hk => by cases hk⟩ (by simpa using h2)
  rw [List.nil_append] at h
  unfold linksK
  rw [h1]
  have hf : ∀ a f, L.filter (onK a f) = S.filter (onK a f) := fun a f => by
    have := h3.2 ⟨0, a, f, 0⟩
    have e : eqv cmpFT ⟨0, a, f, 0⟩ = onK a f := by
      funext x
      have h1 := cmpFT_iff ⟨0, a, f, 0⟩ x
      have h2 := cmpFT_iff x ⟨0, a, f, 0⟩
      simp only [] at h1 h2
      unfold eqv onK
      by_cases q : x.f = a ∧ x.t = f
      · rw [decide_eq_true q, decide_eq_false (by rw [h1]; omega), decide_eq_false (by rw [h2]; omega)]; rfl
      · rw [decide_eq_false q]
        by_cases q2 : cmpFT ⟨0, a, f, 0⟩ x < 0
        · rw [decide_eq_true q2]; rfl
        · rw [decide_eq_true (p := cmpFT x ⟨0, a, f, 0⟩ < 0) (by rw [h1] at q2; rw [h2]; omega)]; simp
    rw [e] at this
    exact this
  have hl : ∀ a f, lk L a f = lk S a f := fun a f => by unfold lk cnt sml; rw [hf]
  refine ⟨h.up, fun y hy => by rw [hl]; exact h.is y hy, fun x hx => by rw [hl]; exact h.all x (h3.mem weakFT hx), fun y hy => ?_⟩
  obtain ⟨x, hx, e⟩ := h.got y hy
  exact ⟨x, h3.symm.mem weakFT hx, e⟩

/-! ### The document's way -/

/-- How many links stand ahead of the frame's. -/
def lpos (x : Fr) : List Fr → Nat
  | [] => 0
  | y :: r => if y.a < x.f ∨ (y.a = x.f ∧ y.f < x.t) then lpos x r + 1 else 0
def isAt (out : List Fr) (k : Nat) (x : Fr) : Bool := match out[k]? with
  | some y => decide (y.a = x.f ∧ y.f = x.t)
  | none => false
/-- Its link is there, if need be with nothing on it. -/
def rput (out : List Fr) (x : Fr) : List Fr := if isAt out (lpos x out) x = true then out else out.take (lpos x out) ++ ⟨x.f, x.t, 0, 0⟩ :: out.drop (lpos x out)
def radd (out : List Fr) (k : Nat) (x : Fr) : List Fr := match out[k]? with
  | some y => out.set k ⟨y.a, y.f, y.t + 1, y.l + x.l⟩
  | none => out
def rl (out : List Fr) (x : Fr) : List Fr := radd (rput out x) (lpos x out) x

theorem lpos_le (x : Fr) : ∀ (out : List Fr), lpos x out ≤ out.length
  | [] => Nat.le_refl _
  | y :: r => by unfold lpos; split; · have := lpos_le x r; simp; omega
                 · simp
theorem lpos_low (x : Fr) : ∀ (out : List Fr) (k : Nat), k < lpos x out → ∀ y, out[k]? = some y → y.a < x.f ∨ (y.a = x.f ∧ y.f < x.t)
  | [], k, h, y, hy => by simp [lpos] at h
  | z :: r, k, h, y, hy => by
    unfold lpos at h
    split at h
    · rename_i hz
      cases k with
      | zero => simp at hy; subst hy; exact hz
      | succ k => exact lpos_low x r k (by omega) y (by simpa using hy)
    · omega
theorem lpos_at (x : Fr) : ∀ (out : List Fr) (y : Fr), out[lpos x out]? = some y → ¬ (y.a < x.f ∨ (y.a = x.f ∧ y.f < x.t))
  | [], y, hy => by simp at hy
  | z :: r, y, hy => by
    unfold lpos at hy
    split at hy
    · exact lpos_at x r y (by simpa using hy)
    · rename_i hz
      simp at hy
      subst hy
      exact hz

theorem rl_put {out : List Fr} {x : Fr} (h : ¬ isAt out (lpos x out) x = true) : rl out x = out.take (lpos x out) ++ ⟨x.f, x.t, 1, x.l⟩ :: out.drop (lpos x out) := by
  have hk := lpos_le x out
  have hl : (out.take (lpos x out)).length = lpos x out := by rw [List.length_take]; omega
  unfold rl rput radd
  rw [if_neg h]
  have e : (out.take (lpos x out) ++ (⟨x.f, x.t, 0, 0⟩ : Fr) :: out.drop (lpos x out))[lpos x out]? = some ⟨x.f, x.t, 0, 0⟩ := by
    rw [List.getElem?_append_right (by omega), hl, Nat.sub_self]; rfl
  rw [e]
  simp only []
  rw [List.set_append_right _ _ (by omega), hl, Nat.sub_self, List.set_cons_zero]
  simp
theorem rl_add {out o1 o2 : List Fr} {x k : Fr} (h : isAt out (lpos x out) x = true) (e : out = o1 ++ k :: o2) (hl : o1.length = lpos x out) : rl out x = o1 ++ ⟨k.a, k.f, k.t + 1, k.l + x.l⟩ :: o2 := by
  unfold rl rput radd
  rw [if_pos h]
  have e2 : out[lpos x out]? = some k := by rw [← hl, e, List.getElem?_append_right (Nat.le_refl _), Nat.sub_self]; rfl
  rw [e2]
  simp only []
  rw [← hl, e, List.set_append_right _ _ (Nat.le_refl _), Nat.sub_self, List.set_cons_zero]

def sumT (out : List Fr) : Int := (out.map Fr.t).sum
def sumL (out : List Fr) : Int := (out.map Fr.l).sum
theorem sumT_mid (o1 o2 : List Fr) (y : Fr) : sumT (o1 ++ y :: o2) = sumT o1 + y.t + sumT o2 := by simp [sumT]; omega
theorem sumL_mid (o1 o2 : List Fr) (y : Fr) : sumL (o1 ++ y :: o2) = sumL o1 + y.l + sumL o2 := by simp [sumL]; omega
theorem sumT_app (o1 o2 : List Fr) : sumT (o1 ++ o2) = sumT o1 + sumT o2 := by simp [sumT]
theorem sumL_app (o1 o2 : List Fr) : sumL (o1 ++ o2) = sumL o1 + sumL o2 := by simp [sumL]

theorem rl_of {P out : List Fr} {x : Fr} (h : LinkOf P out) : LinkOf (P ++ [x]) (rl out x) ∧ sumT (rl out x) = sumT out + 1 ∧ sumL (rl out x) = sumL out + x.l := by
  have hk := lpos_le x out
  have hs : out = out.take (lpos x out) ++ out.drop (lpos x out) := (List.take_append_drop _ _).symm
  have hlow : ∀ y ∈ out.take (lpos x out), y.a < x.f ∨ (y.a = x.f ∧ y.f < x.t) := fun y hy => by
    obtain ⟨i, hi, e⟩ := List.mem_take_iff_getElem.1 hy
    exact lpos_low x out i (by omega) y (by rw [List.getElem?_eq_getElem (by omega), e])
  by_cases ha : isAt out (lpos x out) x = true
  · have hex : ∃ y, out[lpos x out]? = some y ∧ y.a = x.f ∧ y.f = x.t := by
      unfold isAt at ha
      split at ha
      · rename_i y hy; exact ⟨y, hy, by simpa using ha⟩
      · cases ha
    obtain ⟨y, hy, e1, e2⟩ := hex
    obtain ⟨hi, hy2⟩ := List.getElem?_eq_some_iff.1 hy
    have e : out = out.take (lpos x out) ++ y :: out.drop (lpos x out + 1) := by
      conv => lhs; rw [hs, List.drop_eq_getElem_cons hi, hy2]
    have hl : (out.take (lpos x out)).length = lpos x out := by rw [List.length_take]; omega
    rw [rl_add ha e hl, sumT_mid, sumL_mid]
    refine ⟨LinkOf.add (by rw [← e]; exact h) e1 e2, ?_, ?_⟩
    · conv => rhs; rw [e, sumT_mid]
      simp only []
      omega
    · conv => rhs; rw [e, sumL_mid]
      simp only []
      omega
  · rw [rl_put ha, sumT_mid, sumL_mid]
    refine ⟨LinkOf.put (by rw [← hs]; exact h) hlow fun y hy => ?_, ?_, ?_⟩
    · by_cases hlt : lpos x out < out.length
      · rw [List.drop_eq_getElem_cons hlt] at hy
        have hz := lpos_at x out out[lpos x out] (List.getElem?_eq_getElem hlt)
        have hza : ¬ (out[lpos x out].a = x.f ∧ out[lpos x out].f = x.t) := by
          unfold isAt at ha
          rw [List.getElem?_eq_getElem hlt] at ha
          simpa using ha
        rcases List.mem_cons.1 hy with rfl | hy
        · omega
        · have hp := h.up
          rw [hs, List.drop_eq_getElem_cons hlt] at hp
          have := (List.pairwise_cons.1 (List.pairwise_append.1 hp).2.1).1 y hy
          unfold keyLt at this
          omega
      · rw [List.drop_of_length_le (by omega)] at hy
        cases hy
    · conv => rhs; rw [hs, sumT_app]
      simp only []
      omega
    · conv => rhs; rw [hs, sumL_app]
      simp only []
      omega

theorem foldl_of : ∀ (R P out : List Fr), LinkOf P out → sumT out = P.length → sumL out = sumL P → LinkOf (P ++ R) (R.foldl rl out) ∧ sumT (R.foldl rl out) = (P ++ R).length ∧ sumL (R.foldl rl out) = sumL (P ++ R)
  | [], P, out, h, h1, h2 => by simp only [List.append_nil, List.foldl_nil]; exact ⟨h, h1, h2⟩
  | x :: R, P, out, h, h1, h2 => by
    obtain ⟨a, b, c⟩ := rl_of (x := x) h
    have := foldl_of R (P ++ [x]) (rl out x) a (by rw [b, h1]; simp) (by rw [c, h2, sumL_app]; simp [sumL])
    simpa using this

/-- Both make the same. -/
theorem links_same (L : List Fr) : L.foldl rl [] = linksK L ∧ sumT (linksK L) = L.length ∧ sumL (linksK L) = sumL L := by
  obtain ⟨a, b, c⟩ := foldl_of L [] [] LinkOf.nil rfl rfl
  rw [List.nil_append] at a b c
  have e := a.uniq (linksK_of L)
  rw [e] at b c
  exact ⟨e, b, c⟩

end Go.Proofs.Ytkoplgpobagfoaa
