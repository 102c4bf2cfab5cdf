/-
  symMerge of any two stretches; the state of the stable sort's rounds, without the program.
-/
import Derived.Test.YtkoplgpobagfoaaSe
namespace Go.Proofs.Ytkoplgpobagfoaa
open Go.RowKit
set_option linter.unusedVariables false
set_option linter.unusedSimpArgs false

theorem sym_any (F : Nat) (cf : Fr → Fr → Int) (hF : ∀ (args : Array Value) (w : World), (callFunc F args).run Try.prog w = .ok (.enter F args) w)
    (hcf : ∀ (w : World) (x y : Fr), Calls Try.prog F #[frV x, frV y] w fun r w' => r = .returned (.int .i64 (cf x y)) ∧ Touch Nothing w w') (hw : Weak cf) (g c n : Nat) (hnl : n ≤ 1048576) :
    ∀ (d : Nat) (w : World) (A u v D : List Fr) (a m b : Nat), a = A.length → m = a + u.length → b = m + v.length → n = b + D.length → 0 < u.length → 0 < v.length → b - a < d → Srd cf u → Srd cf v → RowF w g (A ++ (u ++ (v ++ D))) →
      Calls Try.prog 55 #[.slice (some ⟨g, 0, none⟩) n c, .int .i64 (a : Int), .int .i64 (m : Int), .int .i64 (b : Int), .func (.func F) #[] #[]] w (Merged cf w g A (u ++ v) D) := by
  intro d
  induction d with
  | zero => intro w A u v D a m b _ _ _ _ _ _ h; omega
  | succ d ih =>
    intro w A u v D a m b ha hm hb hn hu hv hd su sv hR
    by_cases h1 : u.length = 1
    · obtain ⟨x, rfl⟩ := List.length_eq_one_iff.1 h1
      exact sym_left F cf hF hcf hw w g c A x v D n a m b ha hm hb hn sv hR hnl
    · by_cases h2 : v.length = 1
      · obtain ⟨y, rfl⟩ := List.length_eq_one_iff.1 h2
        exact sym_right F cf hF hcf hw w g c A u y D n a m b ha hm hb hn (by omega) su hR hnl
      · exact sym_mid F cf hF hcf hw g c n d hnl ih w A u v D a m b ha hm hb hn (by omega) (by omega) (by omega) su sv hR

/-! ### The rounds of the stable sort, plain -/

/-- Blocks of k frames each, that go up. -/
def Bks (cf : Fr → Fr → Int) (k : Nat) (Ps : List (List Fr)) : Prop := ∀ B ∈ Ps, B.length = k ∧ Srd cf B

section
variable {cf : Fr → Fr → Int} {k : Nat}
theorem Bks.nil : Bks cf k [] := fun _ h => absurd h (List.not_mem_nil)
theorem Bks.snoc {Ps : List (List Fr)} {B : List Fr} (h : Bks cf k Ps) (hb : B.length = k) (hs : Srd cf B) : Bks cf k (Ps ++ [B]) := by
  intro X hX
  rcases List.mem_append.1 hX with h1 | h1
  · exact h X h1
  · rw [List.mem_singleton.1 h1]; exact ⟨hb, hs⟩
theorem Bks.head {Q : List (List Fr)} {B : List Fr} (h : Bks cf k (B :: Q)) : B.length = k ∧ Srd cf B := h B List.mem_cons_self
theorem Bks.tail {Q : List (List Fr)} {B : List Fr} (h : Bks cf k (B :: Q)) : Bks cf k Q := fun X hX => h X (List.mem_cons_of_mem _ hX)

/-- The first round: blocks of twenty up to a. -/
def S1 (cf : Fr → Fr → Int) (M X : List Fr) (a : Nat) : Prop := ∃ Ps R, X = Ps.flatten ++ R ∧ Bks cf 20 Ps ∧ a = Ps.flatten.length ∧ St cf M X
/-- All of it in blocks of k, the last one shorter. -/
def S2 (cf : Fr → Fr → Int) (M X : List Fr) (k : Nat) : Prop := ∃ Ps T, X = Ps.flatten ++ T ∧ Bks cf k Ps ∧ Srd cf T ∧ T.length < k ∧ St cf M X
/-- Blocks of 2 k up to a, behind it blocks of k. -/
def S3 (cf : Fr → Fr → Int) (M X : List Fr) (k a : Nat) : Prop := ∃ Ps Qs T, X = Ps.flatten ++ (Qs.flatten ++ T) ∧ Bks cf (2 * k) Ps ∧ Bks cf k Qs ∧ Srd cf T ∧ T.length < k ∧ a = Ps.flatten.length ∧ St cf M X

theorem S1.start (M : List Fr) : S1 cf M M 0 := ⟨[], M, rfl, Bks.nil, rfl, St.refl _⟩
theorem S1.step (hw : Weak cf) {M X : List Fr} {a : Nat} (h : S1 cf M X a) (hb : a + 20 ≤ X.length) : S1 cf M (insS cf a (a + 20) X) (a + 20) := by
  obtain ⟨Ps, R, rfl, h1, rfl, h3⟩ := h
  have hl : 20 ≤ R.length := by rw [List.length_append] at hb; omega
  obtain ⟨Z, e, sZ, tZ⟩ := insS_st (cf := cf) hw Ps.flatten (R.take 20) (R.drop 20)
  rw [List.take_append_drop, List.length_take, Nat.min_eq_left hl] at e
  have lZ : Z.length = 20 := by rw [← tZ.1, List.length_take, Nat.min_eq_left hl]
  rw [e]
  refine ⟨Ps ++ [Z], R.drop 20, by simp, h1.snoc lZ sZ, by simp [lZ], h3.trans ?_⟩
  have := (St.refl (cf := cf) Ps.flatten).append (tZ.append (St.refl (R.drop 20)))
  rw [List.take_append_drop] at this
  exact this
theorem S1.last (hw : Weak cf) {M X : List Fr} {a : Nat} (h : S1 cf M X a) (hb : X.length < a + 20) : S2 cf M (insS cf a X.length X) 20 := by
  obtain ⟨Ps, R, rfl, h1, rfl, h3⟩ := h
  obtain ⟨Z, e, sZ, tZ⟩ := insS_st (cf := cf) hw Ps.flatten R []
  rw [List.append_nil, List.append_nil] at e
  rw [List.length_append, e]
  rw [List.length_append] at hb
  exact ⟨Ps, Z, rfl, h1, sZ, by rw [← tZ.1]; omega, h3.trans ((St.refl _).append tZ)⟩
theorem S2.enter {M X : List Fr} (h : S2 cf M X k) : S3 cf M X k 0 := by
  obtain ⟨Ps, T, e, h1, h2, h3, h4⟩ := h
  exact ⟨[], Ps, T, e, Bks.nil, h1, h2, h3, rfl, h4⟩
theorem S2.done {M X : List Fr} (h : S2 cf M X k) (hk : X.length ≤ k) : Srd cf X ∧ St cf M X := by
  obtain ⟨Ps, T, rfl, h1, h2, h3, h4⟩ := h
  refine ⟨?_, h4⟩
  cases Ps with
  | nil => exact h2
  | cons B Q =>
    have lB := h1.head.1
    have e : Q.flatten ++ T = [] := by
      refine List.eq_nil_of_length_eq_zero ?_
      have := hk
      simp only [List.flatten_cons, List.append_assoc, List.length_append] at this
      rw [List.length_append]
      omega
    rw [List.flatten_cons, List.append_assoc, e, List.append_nil]
    exact h1.head.2

theorem S3.split {M X : List Fr} {a : Nat} (h : S3 cf M X k a) (hb : a + 2 * k ≤ X.length) :
    ∃ A u v D, X = A ++ (u ++ (v ++ D)) ∧ a = A.length ∧ u.length = k ∧ v.length = k ∧ Srd cf u ∧ Srd cf v ∧ ∀ Z, Srd cf Z → St cf (u ++ v) Z → S3 cf M (A ++ (Z ++ D)) k (a + 2 * k) := by
  obtain ⟨Ps, Qs, T, e, h1, h2, h3, h4, rfl, h5⟩ := h
  have hl : 2 * k ≤ Qs.flatten.length + T.length := by rw [e] at hb; simp only [List.length_append] at hb; omega
  match Qs, h2 with
  | [], _ => simp at hl; omega
  | [B], h2 => have := h2.head.1; simp at hl; omega
  | B :: C :: Q, h2 =>
    refine ⟨Ps.flatten, B, C, Q.flatten ++ T, by rw [e]; simp [List.flatten_cons], rfl, h2.head.1, h2.tail.head.1, h2.head.2, h2.tail.head.2, fun Z sZ tZ => ?_⟩
    have lZ : Z.length = 2 * k := by rw [← tZ.1, List.length_append, h2.head.1, h2.tail.head.1]; omega
    refine ⟨Ps ++ [Z], Q, T, by simp, h1.snoc lZ sZ, h2.tail.tail, h3, h4, by simp [lZ], h5.trans ?_⟩
    rw [e]
    have := (St.refl (cf := cf) Ps.flatten).append (tZ.append (St.refl (Q.flatten ++ T)))
    simpa [List.flatten_cons] using this
theorem S3.last {M X : List Fr} {a : Nat} (h : S3 cf M X k a) (hb : X.length < a + 2 * k) (hm : a + k < X.length) :
    ∃ A u v, X = A ++ (u ++ (v ++ [])) ∧ a = A.length ∧ u.length = k ∧ a + k + v.length = X.length ∧ Srd cf u ∧ Srd cf v ∧ ∀ Z, Srd cf Z → St cf (u ++ v) Z → S2 cf M (A ++ (Z ++ [])) (2 * k) := by
  obtain ⟨Ps, Qs, T, e, h1, h2, h3, h4, rfl, h5⟩ := h
  have hl : Qs.flatten.length + T.length < 2 * k := by rw [e] at hb; simp only [List.length_append] at hb; omega
  have hl2 : k < Qs.flatten.length + T.length := by rw [e] at hm; simp only [List.length_append] at hm; omega
  match Qs, h2 with
  | [], _ => simp at hl2; omega
  | [B], h2 =>
    have lB := h2.head.1
    refine ⟨Ps.flatten, B, T, by rw [e]; simp, rfl, lB, by rw [e]; simp [lB]; omega, h2.head.2, h3, fun Z sZ tZ => ?_⟩
    rw [List.append_nil]
    refine ⟨Ps, Z, rfl, h1, sZ, by rw [← tZ.1, List.length_append]; omega, h5.trans ?_⟩
    rw [e]
    have := (St.refl (cf := cf) Ps.flatten).append tZ
    simpa using this
  | B :: C :: Q, h2 => have := h2.head.1; have := h2.tail.head.1; simp at hl; omega
theorem S3.whole {M X : List Fr} {a : Nat} (h : S3 cf M X k a) (hm : X.length ≤ a + k) (hk : 0 < k) : S2 cf M X (2 * k) := by
  obtain ⟨Ps, Qs, T, e, h1, h2, h3, h4, rfl, h5⟩ := h
  have hl : Qs.flatten.length + T.length ≤ k := by rw [e] at hm; simp only [List.length_append] at hm; omega
  match Qs, h2 with
  | [], _ => exact ⟨Ps, T, by rw [e]; simp, h1, h3, by omega, h5⟩
  | [B], h2 =>
    have lB := h2.head.1
    have e0 : T = [] := List.eq_nil_of_length_eq_zero (by simp at hl; omega)
    exact ⟨Ps, B, by rw [e, e0]; simp, h1, h2.head.2, by omega, h5⟩
  | B :: C :: Q, h2 => have := h2.head.1; have := h2.tail.head.1; simp at hl; omega
end

end Go.Proofs.Ytkoplgpobagfoaa
