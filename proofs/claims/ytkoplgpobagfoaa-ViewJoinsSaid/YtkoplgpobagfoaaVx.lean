/-
  Layer 27: the links of a sorted view, in plain; a row of links of one's own.
-/
import Derived.Test.YtkoplgpobagfoaaVw
namespace Go.Proofs.Ytkoplgpobagfoaa
open Go.RowKit
set_option linter.unusedVariables false
set_option linter.unusedSimpArgs false

/-! ### Plain: a link is told as a 'frame': from, to, many, bytes -/

def lstep (out : List Fr) (nw : Bool) (x : Fr) : List Fr :=
  if nw = true then out ++ [⟨x.f, x.t, 1, x.l⟩] else match out.getLast? with
  | some k => out.dropLast ++ [⟨k.a, k.f, k.t + 1, k.l + x.l⟩]
  | none => out

def isNew (p : Option Fr) (x : Fr) : Bool := match p with
  | none => true
  | some y => !decide (y.f = x.f ∧ y.t = x.t)

def lgo (p : Option Fr) (out : List Fr) : List Fr → List Fr
  | [] => out
  | x :: r => lgo (some x) (lstep out (isNew p x) x) r

def linksR (L : List Fr) : List Fr × Int := if (chkR L).2 ≠ 0 then ([], (chkR L).2) else (lgo none [] (insS cmpFT 0 L.length L), 0)

/-- What a list of links stays within. -/
def LBnd (n : Nat) (out : List Fr) : Prop := ∀ y ∈ out, 0 ≤ y.t ∧ y.t ≤ (n : Int) ∧ 0 ≤ y.l ∧ y.l ≤ 65536 * (n : Int)

theorem lstep_bnd {n : Nat} {out : List Fr} {nw : Bool} {x : Fr} (h : LBnd n out) (hx : 0 ≤ x.l ∧ x.l ≤ 65536) : LBnd (n + 1) (lstep out nw x) := by
  intro y hy
  unfold lstep at hy
  cases nw with
  | true =>
    rw [if_pos rfl] at hy
    rcases List.mem_append.1 hy with h1 | h1
    · have := h y h1; omega
    · rw [List.mem_singleton] at h1; subst h1; simp only []; omega
  | false =>
    rw [if_neg (by simp)] at hy
    cases hl : out.getLast? with
    | none => rw [hl] at hy; have := h y hy; omega
    | some k =>
      rw [hl] at hy
      simp only [] at hy
      rcases List.mem_append.1 hy with h1 | h1
      · have := h y ((List.dropLast_sublist out).mem h1); omega
      · rw [List.mem_singleton] at h1
        subst h1
        have := h k (List.mem_of_getLast? hl)
        simp only []
        omega

theorem lstep_pos (out : List Fr) (nw : Bool) (x : Fr) (h : nw = true ∨ 0 < out.length) : 0 < (lstep out nw x).length := by
  unfold lstep
  cases nw with
  | true => rw [if_pos rfl]; simp
  | false =>
    rw [if_neg (by simp)]
    have h2 : 0 < out.length := by rcases h with h | h; · cases h
                                   · exact h
    cases hl : out.getLast? with
    | none => rw [List.getLast?_eq_none_iff] at hl; subst hl; simp at h2
    | some k => simp

theorem lstep_len (out : List Fr) (nw : Bool) (x : Fr) : (lstep out nw x).length ≤ out.length + 1 := by
  unfold lstep
  split
  · simp
  · split
    · simp
    · omega

/-! ### What is sorted holds what was there -/

theorem sw_mem {L : List Fr} {j : Nat} {x : Fr} (h : x ∈ sw L j) : x ∈ L := by
  unfold sw at h
  split at h
  · rename_i a b ha hb
    rcases List.mem_or_eq_of_mem_set h with h | rfl
    · rcases List.mem_or_eq_of_mem_set h with h | rfl
      · exact h
      · exact List.mem_of_getElem? hb
    · exact List.mem_of_getElem? ha
  · exact h
theorem sink_mem {cf : Fr → Fr → Int} {a : Nat} {x : Fr} : ∀ {j : Nat} {L : List Fr}, x ∈ sink cf a j L → x ∈ L
  | 0, _, h => h
  | j + 1, L, h => by
    unfold sink at h
    split at h
    · exact sw_mem (sink_mem h)
    · exact h
theorem ins_mem {cf : Fr → Fr → Int} {a : Nat} {x : Fr} : ∀ {c i : Nat} {L : List Fr}, x ∈ ins cf a c i L → x ∈ L
  | 0, _, _, h => h
  | c + 1, i, L, h => by
    unfold ins at h
    exact sink_mem (ins_mem h)
theorem insS_mem {cf : Fr → Fr → Int} {a b : Nat} {L : List Fr} {x : Fr} (h : x ∈ insS cf a b L) : x ∈ L := ins_mem h
theorem insS_len (cf : Fr → Fr → Int) (a b : Nat) (L : List Fr) : (insS cf a b L).length = L.length := ins_len _ _ _ _ _

theorem chk_ok {L : List Fr} {last : Int} {k : Nat} (h : (chk last k L).2 = 0) : ∀ x ∈ L, ¬ bad x := by
  induction L generalizing last k with
  | nil => intro x hx; cases hx
  | cons y r ih =>
    unfold chk at h
    by_cases hb : bad y
    · rw [if_pos hb] at h; simp at h
    · rw [if_neg hb] at h
      by_cases ha : y.a < last
      · rw [if_pos ha] at h; simp at h
      · rw [if_neg ha] at h
        intro x hx
        rcases List.mem_cons.1 hx with rfl | hx
        · exact hb
        · exact ih h x hx

theorem chkR_ok {L : List Fr} (h : (chkR L).2 = 0) : L.length ≤ 65536 ∧ ∀ x ∈ L, ¬ bad x := by
  unfold chkR at h
  by_cases hn : 65536 < L.length
  · rw [if_pos hn] at h; simp at h
  · rw [if_neg hn] at h
    exact ⟨by omega, chk_ok h⟩

/-! ### A row of links of one's own -/

theorem elt29 : Elt Try.prog 24 29 4 32 := Elt.mk' (z := .agg #[.int .i64 0, .int .i64 0, .int .i64 0, .int .i64 0]) (by kernel_rfl) (by kernel_rfl) rfl (by decide)

def RowK (w : World) (g c : Nat) (L : List Fr) : Prop := ∃ ex, w.heap[g]? = some (.cells (flat L ++ ex).toArray 29 (0, 0)) ∧ (flat L ++ ex).length = c * 4

theorem RowK.keep {F : Nat → Prop} {w w' : World} {g c : Nat} {L : List Fr} (h : RowK w g c L) (ht : Touch F w w') (hf : ¬ F g) : RowK w' g c L := by
  obtain ⟨ex, hg, hl⟩ := h
  exact ⟨ex, ht.heap hg hf, hl⟩

theorem RowK.cell {w : World} {g c : Nat} {L : List Fr} (h : RowK w g c L) (i j : Nat) (hi : i < L.length) (hj : j < 4) : w.cell? ⟨g, i * 4 + j, none⟩ = (frCs L[i])[j]? := by
  obtain ⟨ex, hg, _⟩ := h
  rw [cell_blk hg, List.getElem?_toArray, List.getElem?_append_left (by rw [flat_len]; omega), flat_at L i j hi hj]

theorem RowK.frz {w : World} {g c : Nat} {L : List Fr} (h : RowK w g c L) (o : Nat) : w.frozen? ⟨g, o, none⟩ = false := by
  obtain ⟨ex, hg, _⟩ := h
  exact frz_blk hg o

theorem RowK.set {w : World} {g c : Nat} {L : List Fr} (h : RowK w g c L) (i j : Nat) (hi : i < L.length) (v : Value) (x : Fr) (hx : frCs x = (frCs L[i]).set j v) (hj : j < 4) : RowK (w.setCell ⟨g, i * 4 + j, none⟩ v) g c (L.set i x) := by
  obtain ⟨ex, hg, hl⟩ := h
  refine ⟨ex, ?_, by rw [List.length_append, flat_len, List.length_set, ← flat_len, ← List.length_append]; exact hl⟩
  rw [heap_setCell_same hg (i * 4 + j) v]
  congr 2
  apply Array.toList_inj.1
  have hs : i < (L.set i x).length := by rw [List.length_set]; exact hi
  rw [Array.toList_setIfInBounds, flat_split L i hi, flat_split (L.set i x) i hs, List.getElem_set_self, List.take_set_of_le (Nat.le_refl i), List.drop_set_of_lt (Nat.lt_succ_self i), hx]
  have e1 : (flat (L.take i)).length = i * 4 := by rw [flat_len, List.length_take]; omega
  simp only [List.append_assoc]
  rw [List.set_append_right _ _ (by rw [e1]; omega), e1, show i * 4 + j - i * 4 = j by omega, List.set_append_left _ _ (by rw [frCs_len]; exact hj)]

/-- nil, or a row of links of one's own. -/
def OwnK (w0 w : World) (v : Value) (L : List Fr) : Prop :=
  (v = .slice none 0 0 ∧ L = []) ∨ ∃ g c, v = .slice (some ⟨g, 0, none⟩) L.length c ∧ RowK w g c L ∧ w0.heap.size ≤ g ∧ L.length ≤ c ∧ c ≤ maxLen

theorem OwnK.keep {w0 w w' : World} {v : Value} {L : List Fr} (h : OwnK w0 w v L) (ht : Touch Nothing w w') : OwnK w0 w' v L := by
  rcases h with h | ⟨g, c, h1, h2, h3, h4, h5⟩
  · exact .inl h
  · exact .inr ⟨g, c, h1, h2.keep ht (fun q => q), h3, h4, h5⟩

theorem OwnK.owns {w0 w : World} {v : Value} {L : List Fr} (h : OwnK w0 w v L) : w.ownsRow 0 29 4 v L.length (flat L) ∧ ∀ b, v.ownBlock = some b → w0.heap.size ≤ b := by
  rcases h with ⟨rfl, rfl⟩ | ⟨g, c, rfl, ⟨ex, hg, hl⟩, h3, h4, h5⟩
  · exact ⟨⟨rfl, .inl ⟨rfl, rfl⟩⟩, fun b h => by cases h⟩
  · refine ⟨⟨flat_len L, .inr ⟨g, c, _, rfl, Nat.zero_le _, hg, h4, h5, ?_, ?_⟩⟩, fun b hb => ?_⟩
    · rw [List.size_toArray]; exact hl
    · show List.take (L.length * 4) (flat L ++ ex) = flat L
      rw [← flat_len, List.take_left']
      rfl
    · obtain rfl : g = b := by simpa [Value.ownBlock] using hb
      exact h3

theorem OwnK.of {w0 w : World} {v : Value} {L : List Fr} (h : w.ownsRow 0 29 4 v L.length (flat L)) (hb : ∀ b, v.ownBlock = some b → w0.heap.size ≤ b) : OwnK w0 w v L := by
  rcases h.2 with ⟨hv, h0⟩ | ⟨g, cap, cur, hv, _, hg, hnc, hmx, hcs, htk⟩
  · exact .inl ⟨hv, List.eq_nil_of_length_eq_zero h0⟩
  · refine .inr ⟨g, cap, hv, ⟨cur.toList.drop (L.length * 4), ?_, ?_⟩, hb g (by rw [hv]; rfl), hnc, hmx⟩
    · rw [hg, ← htk, List.take_append_drop]
    · rw [← htk, List.take_append_drop]; simpa using hcs

theorem OwnK.lt {w0 w : World} {v : Value} {L : List Fr} {g : Nat} (h : OwnK w0 w v L) (q : v.ownBlock = some g) : g < w.heap.size := by
  rcases h with ⟨rfl, _⟩ | ⟨g', c, rfl, ⟨ex, hg, _⟩, _⟩
  · cases q
  · obtain rfl : g' = g := by simpa [Value.ownBlock] using q
    exact lt_of_heap hg

theorem wp_appK {o : Oper} {a : Act} {w w0 : World} {K : Act → World → Prop} {Q : Exit → Act → World → Prop} (s x : Operand)
    (ho : o.op = .call { callee := .builtin .append, args := #[s, x], argTypes := #[24, 24] }) {v : Value} {L : List Fr} {y : Fr} {g : Nat} (hs : a.eval s = v) (hO : OwnK w0 w v L) (hx : a.eval x = .slice (some ⟨g, 0, none⟩) 1 1)
    (hg : w.heap[g]? = some (.cells (frCs y).toArray 29)) (ht : Touch Nothing w0 w) (hn : (L.length + 1) * 32 ≤ 140737488355328)
    (k : ∀ v' w', OwnK w0 w' v' (L ++ [y]) → Touch Nothing w0 w' → Touch (fun b => v.ownBlock = some b) w w' → K (a.put o.dst v') w') : o.wp Try.prog a w K Q := by
  obtain ⟨h1, h2⟩ := hO.owns
  refine wp_app elt29 s x ho hs h1 hx (m := 1) (news := frCs y) (.inr ⟨⟨g, 0, none⟩, 1, rfl, rfl, fun j u hu => ?_, flat_one y ▸ flat_one_cell [y]⟩) rfl (zs := flat (L ++ [y])) (by rw [flat_append, flat_one]) (by unfold maxLen; omega) hn ?_
  · rw [Addr.add_lit, Nat.zero_add, cell_blk hg j]
    simpa using hu
  · intro v' w' ho' hgr hor
    have t' := ht.grown hgr (fun b hb q => by have := h2 b q; omega)
    refine k v' w' (OwnK.of (by rw [List.length_append]; exact ho') fun b hb => ?_) t' ((Touch.refl _ w).grown hgr (fun _ _ q => q))
    rcases hor with h | h
    · exact h2 b (by rw [← h]; exact hb)
    · rw [hb] at h
      obtain rfl : b = w.heap.size := by simpa using h
      exact ht.size

end Go.Proofs.Ytkoplgpobagfoaa
