/-
  Views merged, without the program.
-/
import Derived.Test.YtkoplgpobagfoaaJn
namespace Go.Proofs.Ytkoplgpobagfoaa
open Go.RowKit
set_option linter.unusedVariables false
set_option linter.unusedSimpArgs false

/-- The first one's frames ahead of the other's of the same tick. -/
def mrg : List Fr → List Fr → List Fr
  | A, [] => A
  | [], b :: B => b :: B
  | a :: A, b :: B => if a.a ≤ b.a then a :: mrg A (b :: B) else b :: mrg (a :: A) B
termination_by A B => A.length + B.length

theorem mrg_nil_left : ∀ (B : List Fr), mrg [] B = B
  | [] => by rw [mrg]
  | b :: B => by rw [mrg]
theorem mrg_nil_right (A : List Fr) : mrg A [] = A := by cases A <;> rw [mrg]
theorem mrg_cons (a b : Fr) (A B : List Fr) : mrg (a :: A) (b :: B) = if a.a ≤ b.a then a :: mrg A (b :: B) else b :: mrg (a :: A) B := by rw [mrg]

theorem mrg_mem : ∀ (n : Nat) (A B : List Fr), A.length + B.length ≤ n → ∀ x, x ∈ mrg A B → x ∈ A ∨ x ∈ B
  | n, A, [], _, x, h => by rw [mrg_nil_right] at h; exact .inl h
  | n, [], B, _, x, h => by rw [mrg_nil_left] at h; exact .inr h
  | 0, a :: A, b :: B, hn, x, h => by simp at hn
  | n + 1, a :: A, b :: B, hn, x, h => by
    rw [mrg_cons] at h
    split at h
    · rcases List.mem_cons.1 h with rfl | h
      · exact .inl List.mem_cons_self
      · rcases mrg_mem n A (b :: B) (by simp at hn ⊢; omega) x h with h | h
        · exact .inl (List.mem_cons_of_mem _ h)
        · exact .inr h
    · rcases List.mem_cons.1 h with rfl | h
      · exact .inr List.mem_cons_self
      · rcases mrg_mem n (a :: A) B (by simp at hn ⊢; omega) x h with h | h
        · exact .inl h
        · exact .inr (List.mem_cons_of_mem _ h)

theorem srdA_cons {a : Fr} {A : List Fr} (h : Srd cmpA (a :: A)) : (∀ x ∈ A, a.a ≤ x.a) ∧ Srd cmpA A := by
  have h1 := (List.pairwise_cons.1 h).1
  exact ⟨fun x hx => by have := h1 x hx; rw [cmpA_iff] at this; omega, (List.pairwise_cons.1 h).2⟩
theorem srdA_mk {a : Fr} {A : List Fr} (h1 : ∀ x ∈ A, a.a ≤ x.a) (h2 : Srd cmpA A) : Srd cmpA (a :: A) :=
  List.pairwise_cons.2 ⟨fun x hx => by rw [cmpA_iff]; have := h1 x hx; omega, h2⟩

theorem mrg_srd : ∀ (n : Nat) (A B : List Fr), A.length + B.length ≤ n → Srd cmpA A → Srd cmpA B → Srd cmpA (mrg A B)
  | n, A, [], _, hA, hB => by rw [mrg_nil_right]; exact hA
  | n, [], B, _, hA, hB => by rw [mrg_nil_left]; exact hB
  | 0, a :: A, b :: B, hn, hA, hB => by simp at hn
  | n + 1, a :: A, b :: B, hn, hA, hB => by
    rw [mrg_cons]
    have ha := srdA_cons hA
    have hb := srdA_cons hB
    split
    · rename_i hle
      refine srdA_mk (fun x hx => ?_) (mrg_srd n A (b :: B) (by simp at hn ⊢; omega) ha.2 hB)
      rcases mrg_mem _ A (b :: B) (Nat.le_refl _) x hx with h | h
      · exact ha.1 x h
      · rcases List.mem_cons.1 h with rfl | h
        · exact hle
        · have := hb.1 x h; omega
    · rename_i hle
      refine srdA_mk (fun x hx => ?_) (mrg_srd n (a :: A) B (by simp at hn ⊢; omega) hA hb.2)
      rcases mrg_mem _ (a :: A) B (Nat.le_refl _) x hx with h | h
      · rcases List.mem_cons.1 h with rfl | h
        · omega
        · have := ha.1 x h; omega
      · exact hb.1 x h

theorem mrg_st : ∀ (n : Nat) (A B : List Fr), A.length + B.length ≤ n → Srd cmpA A → St cmpA (A ++ B) (mrg A B)
  | n, A, [], _, hA => by rw [mrg_nil_right, List.append_nil]; exact St.refl _
  | n, [], B, _, hA => by rw [mrg_nil_left]; exact St.refl _
  | 0, a :: A, b :: B, hn, hA => by simp at hn
  | n + 1, a :: A, b :: B, hn, hA => by
    rw [mrg_cons]
    have ha := srdA_cons hA
    split
    · exact (St.refl (cf := cmpA) [a]).append (mrg_st n A (b :: B) (by simp at hn ⊢; omega) ha.2)
    · rename_i hle
      have h1 := St.swap weakA (u := a :: A) (v := [b]) (fun x hx y hy => by
        rw [List.mem_singleton.1 hy, cmpA_iff]
        rcases List.mem_cons.1 hx with rfl | hx
        · omega
        · have := ha.1 x hx; omega)
      have h2 := h1.append (St.refl (cf := cmpA) B)
      have h3 := (St.refl (cf := cmpA) [b]).append (mrg_st n (a :: A) B (by simp at hn ⊢; omega) hA)
      have e1 : (a :: A) ++ [b] ++ B = (a :: A) ++ b :: B := by simp
      have e2 : [b] ++ (a :: A) ++ B = [b] ++ ((a :: A) ++ B) := by simp
      rw [e1, e2] at h2
      exact h2.trans h3

theorem mrg_sub_left : ∀ (n : Nat) (A B : List Fr), A.length + B.length ≤ n → A.Sublist (mrg A B)
  | n, A, [], _ => by rw [mrg_nil_right]; exact List.Sublist.refl _
  | n, [], B, _ => List.nil_sublist _
  | 0, a :: A, b :: B, hn => by simp at hn
  | n + 1, a :: A, b :: B, hn => by
    rw [mrg_cons]
    split
    · exact (mrg_sub_left n A (b :: B) (by simp at hn ⊢; omega)).cons_cons a
    · exact (mrg_sub_left n (a :: A) B (by simp at hn ⊢; omega)).cons b
theorem mrg_sub_right : ∀ (n : Nat) (A B : List Fr), A.length + B.length ≤ n → B.Sublist (mrg A B)
  | n, A, [], _ => List.nil_sublist _
  | n, [], B, _ => by rw [mrg_nil_left]; exact List.Sublist.refl _
  | 0, a :: A, b :: B, hn => by simp at hn
  | n + 1, a :: A, b :: B, hn => by
    rw [mrg_cons]
    split
    · exact (mrg_sub_right n A (b :: B) (by simp at hn ⊢; omega)).cons a
    · exact (mrg_sub_right n (a :: A) B (by simp at hn ⊢; omega)).cons_cons b

/-! ### Views that may be go up -/

theorem chk_srd : ∀ (L : List Fr) (last : Int) (k : Nat), (chk last k L).2 = 0 → Srd cmpA L ∧ (∀ x ∈ L, last ≤ x.a)
  | [], last, k, _ => ⟨List.Pairwise.nil, fun x hx => absurd hx List.not_mem_nil⟩
  | z :: r, last, k, h => by
    unfold chk at h
    by_cases hb : bad z
    · rw [if_pos hb] at h; simp at h
    · rw [if_neg hb] at h
      by_cases ha : z.a < last
      · rw [if_pos ha] at h; simp at h
      · rw [if_neg ha] at h
        obtain ⟨h1, h2⟩ := chk_srd r z.a (k + 1) h
        refine ⟨srdA_mk h2 h1, fun x hx => ?_⟩
        rcases List.mem_cons.1 hx with rfl | hx
        · omega
        · have := h2 x hx; omega
theorem chk_of : ∀ (L : List Fr) (last : Int) (k : Nat), Srd cmpA L → (∀ x ∈ L, last ≤ x.a) → (∀ x ∈ L, ¬ bad x) → chk last k L = (0, 0)
  | [], last, k, _, _, _ => rfl
  | z :: r, last, k, h1, h2, h3 => by
    unfold chk
    have hs := srdA_cons h1
    have h4 := h2 z List.mem_cons_self
    rw [if_neg (h3 z List.mem_cons_self), if_neg (by omega)]
    exact chk_of r z.a (k + 1) hs.2 hs.1 fun x hx => h3 x (List.mem_cons_of_mem _ hx)

theorem chkR_srd {L : List Fr} (h : (chkR L).2 = 0) : Srd cmpA L := by
  unfold chkR at h
  by_cases hn : 65536 < L.length
  · rw [if_pos hn] at h; simp at h
  · rw [if_neg hn] at h
    exact (chk_srd L 0 0 h).1
theorem chkR_of {L : List Fr} (hn : L.length ≤ 65536) (h1 : Srd cmpA L) (h2 : ∀ x ∈ L, ¬ bad x) : chkR L = (0, 0) := by
  unfold chkR
  rw [if_neg (by omega)]
  exact chk_of L 0 0 h1 (fun x hx => by have := h2 x hx; unfold bad at this; omega) h2

/-! ### Joined views -/

theorem jerr_all : ∀ (Ls : List (List Fr)), jerr Ls = 0 → ∀ L ∈ Ls, (chkR L).2 = 0
  | [], _, L, h => absurd h List.not_mem_nil
  | X :: r, h, L, hL => by
    unfold jerr at h
    split at h
    · rename_i hx; exact absurd h hx
    · rename_i hx
      rcases List.mem_cons.1 hL with rfl | hL
      · simpa using hx
      · exact jerr_all r h L hL

/-- All of them, merged one by one, are what the stable sort makes of all in a row. -/
theorem fold_mrg : ∀ (Ls : List (List Fr)) (M Q : List Fr), (∀ L ∈ Ls, Srd cmpA L) → Srd cmpA M → St cmpA Q M → Srd cmpA (Ls.foldl mrg M) ∧ St cmpA (Q ++ Ls.flatten) (Ls.foldl mrg M)
  | [], M, Q, _, h1, h2 => by simp only [List.flatten_nil, List.append_nil, List.foldl_nil]; exact ⟨h1, h2⟩
  | L :: r, M, Q, h, h1, h2 => by
    have hL := h L List.mem_cons_self
    have h3 := mrg_srd _ M L (Nat.le_refl _) h1 hL
    have h4 := (h2.append (St.refl L)).trans (mrg_st _ M L (Nat.le_refl _) h1)
    have := fold_mrg r (mrg M L) (Q ++ L) (fun X hX => h X (List.mem_cons_of_mem _ hX)) h3 h4
    simpa using this

theorem fold_ins (Ls : List (List Fr)) (h : ∀ L ∈ Ls, Srd cmpA L) : Ls.foldl mrg [] = insS cmpA 0 Ls.flatten.length Ls.flatten := by
  obtain ⟨h1, h2⟩ := fold_mrg Ls [] [] h List.Pairwise.nil (St.refl _)
  rw [List.nil_append] at h2
  exact st_insS weakA h1 h2

/-! ### What ViewMerges leans on -/

theorem join2_bad {A B : List Fr} (h : (joinR [A, B]).2 ≠ 0) : (joinR [A, B]).1 = [] := by
  unfold joinR at h ⊢
  split
  · rfl
  · rename_i h1
    rw [if_neg h1] at h
    split
    · rfl
    · rename_i h2
      rw [if_neg h2] at h
      exact absurd rfl h

theorem join2_ok {A B : List Fr} (h : (joinR [A, B]).2 = 0) : (chkR A).2 = 0 ∧ (chkR B).2 = 0 ∧ joinR [A, B] = (mrg A B, 0) ∧ A.length + B.length ≤ 65536 ∧ chkR (mrg A B) = (0, 0) ∧ (mrg A B).length = A.length + B.length := by
  have h1 : jerr [A, B] = 0 := by
    unfold joinR at h
    by_cases h1 : jerr [A, B] = 0
    · exact h1
    · rw [if_pos h1] at h; exact absurd h h1
  have hA := jerr_all _ h1 A List.mem_cons_self
  have hB := jerr_all _ h1 B (List.mem_cons_of_mem _ List.mem_cons_self)
  have hl : lens [A, B] = A.length + B.length := by simp [lens]
  have h2 : ¬ 65536 < lens [A, B] := fun q => by
    unfold joinR at h
    rw [if_neg (by rw [h1]; simp), if_pos q] at h
    simp at h
  have hsA := chkR_srd hA
  have hsB := chkR_srd hB
  have e : mrg A B = insS cmpA 0 [A, B].flatten.length [A, B].flatten := by
    have := fold_ins [A, B] fun L hL => by
      rcases List.mem_cons.1 hL with rfl | hL
      · exact hsA
      · rw [List.mem_singleton.1 hL]; exact hsB
    rw [← this]
    show mrg A B = mrg (mrg [] A) B
    rw [mrg_nil_left]
  have hlen : (mrg A B).length = A.length + B.length := by
    have := (mrg_st _ A B (Nat.le_refl _) hsA).1
    rw [← this, List.length_append]
  refine ⟨hA, hB, ?_, by omega, ?_, hlen⟩
  · unfold joinR
    rw [if_neg (by rw [h1]; simp), if_neg h2, e]
  · refine chkR_of (by omega) (mrg_srd _ A B (Nat.le_refl _) hsA hsB) fun x hx => ?_
    rcases mrg_mem _ A B (Nat.le_refl _) x hx with h | h
    · exact (chkR_ok hA).2 x h
    · exact (chkR_ok hB).2 x h

theorem cut_app (at_ : Int) : ∀ (A : List Fr), Srd cmpA A → A.filter (fun x => decide (x.a ≤ at_)) ++ A.filter (fun x => !decide (x.a ≤ at_)) = A
  | [], _ => rfl
  | a :: A, h => by
    have ha := srdA_cons h
    by_cases q : a.a ≤ at_
    · rw [List.filter_cons, if_pos (by simpa using q), List.filter_cons, if_neg (by simpa using q), List.cons_append, cut_app at_ A ha.2]
    · have h1 : (a :: A).filter (fun x => decide (x.a ≤ at_)) = [] := List.filter_eq_nil_iff.2 fun x hx => by
        rcases List.mem_cons.1 hx with rfl | hx
        · simpa using q
        · have := ha.1 x hx; simp; omega
      have h2 : (a :: A).filter (fun x => !decide (x.a ≤ at_)) = a :: A := List.filter_eq_self.2 fun x hx => by
        rcases List.mem_cons.1 hx with rfl | hx
        · simpa using q
        · have := ha.1 x hx; simp; omega
      rw [h1, h2]
      rfl

/-- Cut apart by a tick, and joined the other way round. -/
theorem cut_join {A : List Fr} (h : (chkR A).2 = 0) {at_ : Int} (h0 : 0 ≤ at_) (h1 : at_ < 1073741824) :
    betR A 0 at_ = (A.filter (inB 0 at_), 0) ∧ betR A (at_ + 1) 2147483647 = (A.filter (inB (at_ + 1) 2147483647), 0) ∧ joinR [A.filter (inB (at_ + 1) 2147483647), A.filter (inB 0 at_)] = (A, 0) := by
  obtain ⟨hn, hb⟩ := chkR_ok h
  have hs := chkR_srd h
  have hx : ∀ x ∈ A, 0 ≤ x.a ∧ x.a ≤ 2147483647 := fun x hx => by have := hb x hx; unfold bad at this; omega
  have eX : A.filter (inB 0 at_) = A.filter (fun x => decide (x.a ≤ at_)) := List.filter_congr fun x q => by
    have := hx x q
    unfold inB outB
    by_cases r : x.a ≤ at_
    · rw [decide_eq_true r, decide_eq_false (by omega), decide_eq_false (by omega)]; rfl
    · rw [decide_eq_false r, decide_eq_true (p := at_ < x.a) (by omega)]; simp
  have eY : A.filter (inB (at_ + 1) 2147483647) = A.filter (fun x => !decide (x.a ≤ at_)) := List.filter_congr fun x q => by
    have := hx x q
    unfold inB outB
    by_cases r : x.a ≤ at_
    · rw [decide_eq_true r, decide_eq_true (p := x.a < at_ + 1) (by omega)]; rfl
    · rw [decide_eq_false r, decide_eq_false (p := x.a < at_ + 1) (by omega), decide_eq_false (p := 2147483647 < x.a) (by omega)]; rfl
  refine ⟨by unfold betR; rw [if_neg (by rw [h]; simp), if_neg (by omega)], by unfold betR; rw [if_neg (by rw [h]; simp), if_neg (by omega)], ?_⟩
  rw [eX, eY]
  obtain ⟨X, hX⟩ : ∃ X, X = A.filter (fun x => decide (x.a ≤ at_)) := ⟨_, rfl⟩
  obtain ⟨Y, hY⟩ : ∃ Y, Y = A.filter (fun x => !decide (x.a ≤ at_)) := ⟨_, rfl⟩
  have hXY : X ++ Y = A := by rw [hX, hY]; exact cut_app at_ A hs
  have hc : ∀ p : Fr → Bool, chkR (A.filter p) = (0, 0) := fun p =>
    chkR_of (Nat.le_trans (List.length_filter_le _ _) hn) (hs.sublist List.filter_sublist) fun x q => hb x (List.mem_filter.1 q).1
  have cX := hc (fun x => decide (x.a ≤ at_))
  have cY := hc (fun x => !decide (x.a ≤ at_))
  rw [← hX] at cX
  rw [← hY] at cY
  rw [← hX, ← hY]
  have hst : St cmpA (Y ++ X) A := by
    conv => arg 3; rw [← hXY]
    refine St.swap weakA (u := Y) (v := X) fun y qy x qx => ?_
    rw [hX] at qx
    rw [hY] at qy
    have h1 := (List.mem_filter.1 qx).2
    have h2 := (List.mem_filter.1 qy).2
    simp at h1 h2
    rw [cmpA_iff]
    omega
  have hl : lens [Y, X] = A.length := by
    have := hst.1
    rw [List.length_append] at this
    simp [lens]
    omega
  unfold joinR
  rw [if_neg (by simp [jerr, cX, cY]), if_neg (by omega)]
  have e := st_insS weakA hs hst
  have e2 : [Y, X].flatten = Y ++ X := by simp
  rw [e2, ← e]

end Go.Proofs.Ytkoplgpobagfoaa
