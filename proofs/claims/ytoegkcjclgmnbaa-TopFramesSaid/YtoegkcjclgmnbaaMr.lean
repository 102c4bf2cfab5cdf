/-
  Layer 11 (mail): rows of messages of one's own; the plain law of messages that come in chunks.
-/
import Derived.Test.YtoegkcjclgmnbaaMq
namespace Go.Proofs.Ytoegkcjclgmnbaa
open Go.RowKit
set_option linter.unusedVariables false
set_option linter.unusedSimpArgs false

/-! ### Feeding -/

/-- k texts were told, b waits, r is to come. -/
structure Fd (l : List (List UInt8)) (k : Nat) (b r : List UInt8) : Prop where
  le : k ≤ l.length
  eq : b ++ r = frames (l.drop k)

theorem frames_nil {l : List (List UInt8)} (h : frames l = []) : l = [] := by
  cases l with
  | nil => rfl
  | cons t l => have := congrArg List.length h; simp [frames, one_len] at this

theorem Fd.start (l : List (List UInt8)) : Fd l 0 [] (frames l) := ⟨Nat.zero_le _, rfl⟩
theorem Fd.ended {l : List (List UInt8)} {k : Nat} (h : Fd l k [] []) : k = l.length := by
  have := frames_nil h.eq.symm
  have := congrArg List.length this
  have := h.le
  simp at *
  omega
theorem Fd.len {l : List (List UInt8)} {k : Nat} {b r : List UInt8} (h : Fd l k b r) : b.length + r.length ≤ (frames l).length := by
  have := congrArg List.length h.eq
  have := frames_drop l k
  simp at *
  omega
theorem Fd.take {l : List (List UInt8)} {k : Nat} {b c r : List UInt8} (hl : ∀ x ∈ l, x.length ≤ 4096) (hm : (frames l).length ≤ 1048576) (h : Fd l k b (c ++ r)) :
    take ⟨b, false⟩ c = (0, ⟨b ++ c, false⟩) ∧ Fd l k (b ++ c) r := by
  have hl2 : ∀ x ∈ l.drop k, x.length ≤ 4096 := fun x hx => hl x (List.mem_of_mem_drop hx)
  have hb2 : (b ++ c) ++ r = frames (l.drop k) := by rw [List.append_assoc]; exact h.eq
  refine ⟨?_, h.le, hb2⟩
  have := h.len
  simp only [List.length_append] at this
  unfold Go.Proofs.Ytoegkcjclgmnbaa.take
  rw [if_neg (by simp), if_neg (by simp; omega), look_front hl2 hb2]
theorem Fd.next {l : List (List UInt8)} {k : Nat} {b r : List UInt8} (hl : ∀ x ∈ l, x.length ≤ 4096) (h : Fd l k b r) :
    (∃ (hk : k < l.length) (b2 : List UInt8), next ⟨b, false⟩ = ((l[k], true), ⟨b2, false⟩) ∧ Fd l (k + 1) b2 r) ∨
    (next ⟨b, false⟩ = (([], false), ⟨b, false⟩) ∧ (r = [] → k = l.length ∧ b = [])) := by
  by_cases hk : k < l.length
  · have hd : l.drop k = l[k] :: l.drop (k + 1) := List.drop_eq_getElem_cons hk
    have he := h.eq
    rw [hd] at he
    rcases next_front (fun x hx => hl x (List.mem_of_mem_drop (hd ▸ hx))) he with ⟨hb, hx⟩ | ⟨b2, hx, h2⟩
    · refine .inr ⟨hx, fun hr => ?_⟩
      subst hr
      generalize l.drop (k + 1) = R at he
      generalize l[k] = t at he hb
      have := congrArg List.length he
      simp [frames, one_len] at this
      omega
    · exact .inl ⟨hk, b2, hx, by have := h.le; omega, h2⟩
  · have e : k = l.length := by have := h.le; omega
    subst e
    have he := h.eq
    rw [List.drop_length] at he
    have hb : b = [] := by simp [frames] at he; exact he.1
    subst hb
    exact .inr ⟨next_broken (s := ⟨[], false⟩) rfl, fun _ => ⟨rfl, rfl⟩⟩

theorem encM_len {m : Ml} (hc : chkM m = true) : (encM m).length ≤ 962 := by
  by_cases hk : m.k = 1
  · have := (one_facts hc hk).2.2.1
    unfold encM
    rw [if_pos hk, List.length_cons, tx_len, this]
    omega
  · obtain ⟨hk2, _, _, _, _, _, _, hbl⟩ := more_facts hc hk
    unfold encM
    rw [if_neg hk, List.length_append, List.length_replicate]
    have : longM m.k ≤ 962 := by rcases hk2 with h | h | h <;> rw [h] <;> decide
    omega

theorem encM_ne {m : Ml} (hc : chkM m = true) : encM m ≠ [] := by
  by_cases hk : m.k = 1
  · unfold encM; rw [if_pos hk]; simp
  · obtain ⟨_, _, _, _, _, _, R, hE, _⟩ := text_more hc hk
    rw [hE]; simp

/-- A message's text. -/
def txB (m : Ml) : ByteArray := ⟨(encM m).toArray⟩
/-- Those of the first i that may be. -/
def val (ts : List Ml) (i : Nat) : List Ml := (ts.take i).filter chkM
theorem val_le (ts : List Ml) (i : Nat) : (val ts i).length ≤ i := by
  unfold val
  refine Nat.le_trans (List.length_filter_le _ _) ?_
  rw [List.length_take]
  omega
theorem val_ok {ts : List Ml} {i : Nat} {m : Ml} (h : m ∈ val ts i) : chkM m = true := (List.mem_filter.1 h).2
theorem val_in {ts : List Ml} {i : Nat} {m : Ml} (h : m ∈ val ts i) : m ∈ ts := List.mem_of_mem_take (List.mem_filter.1 h).1
theorem val_yes {ts : List Ml} {i : Nat} (h : i < ts.length) (hc : chkM ts[i] = true) : val ts (i + 1) = val ts i ++ [ts[i]] := by
  unfold val
  rw [List.take_succ_eq_append_getElem h, List.filter_append]
  simp [hc]
theorem val_no {ts : List Ml} {i : Nat} (h : i < ts.length) (hc : chkM ts[i] = false) : val ts (i + 1) = val ts i := by
  unfold val
  rw [List.take_succ_eq_append_getElem h, List.filter_append]
  simp [hc]

theorem fr_txB (L : List Ml) : fr (L.map txB) = frames (L.map encM) := by
  unfold fr
  rw [List.map_map]
  congr 1
theorem frames_le : ∀ (L : List (List UInt8)), (∀ x ∈ L, x.length ≤ 962) → (frames L).length ≤ 966 * L.length
  | [], _ => Nat.le_refl _
  | x :: r, h => by
    have := frames_le r fun y hy => h y (List.mem_cons_of_mem _ hy)
    have := h x List.mem_cons_self
    have e : frames (x :: r) = one x ++ frames r := by simp [frames]
    rw [e, List.length_append, one_len, List.length_cons]
    omega

/-- The facts of the texts that are written. -/
theorem val_facts (ts : List Ml) (i : Nat) (hi : i ≤ 40) : ofS ((val ts i).map txB) = (frames ((val ts i).map encM), 0) ∧ (∀ x ∈ (val ts i).map encM, x.length ≤ 4096) ∧ (frames ((val ts i).map encM)).length ≤ 1048576 ∧ frLen ((val ts i).map txB) ≤ 1048576 := by
  have h1 : ∀ x ∈ (val ts i).map encM, x.length ≤ 962 := fun x hx => by
    obtain ⟨m, hm, rfl⟩ := List.mem_map.1 hx
    exact encM_len (val_ok hm)
  have h2 := frames_le _ h1
  have h3 := val_le ts i
  rw [List.length_map] at h2
  have h4 : (frames ((val ts i).map encM)).length ≤ 1048576 := by omega
  refine ⟨?_, fun x hx => Nat.le_trans (h1 x hx) (by decide), h4, ?_⟩
  · unfold ofS
    rw [if_pos, fr_txB]
    rw [List.all_eq_true]
    intro s hs
    obtain ⟨m, hm, rfl⟩ := List.mem_map.1 hs
    have : (txB m).size = (encM m).length := rfl
    rw [this]
    have := encM_len (val_ok hm)
    exact decide_eq_true (by omega)
  · rw [← fr_len, fr_txB]
    exact h4

/-! ### Rows of messages -/

theorem elt49 : Elt Try.prog 45 49 7 104 := Elt.mk' (z := .agg zeroC.toArray) Try.underlying45 (by kernel_rfl) rfl (by decide)
theorem mlCs_one (m : Ml) (ps : Option Addr) (cs : Nat) (pi : Option Addr) (ci : Nat) : ∀ u ∈ mlCs m ps cs pi ci, u.oneCell' = true := by
  intro u hu
  unfold mlCs at hu
  simp only [List.mem_cons, List.not_mem_nil, or_false] at hu
  rcases hu with rfl | rfl | rfl | rfl | rfl | rfl | rfl <;> rfl
theorem mlCs_all (m : Ml) (ps : Option Addr) (cs : Nat) (pi : Option Addr) (ci : Nat) : (mlCs m ps cs pi ci).toArray.all (·.oneCell') = true := by simp [mlCs, Value.oneCell']

def OwnM (w0 w : World) (v : Value) (ts : List Ml) : Prop :=
  ∃ F : List (List Value), w.ownsRow 0 49 7 v ts.length F.flatten ∧ (∀ b, v.ownBlock = some b → w0.heap.size ≤ b) ∧ F.length = ts.length ∧
    ∀ i (h : i < ts.length), ∃ ps cs pi ci, F[i]? = some (mlCs ts[i] ps cs pi ci) ∧ SlSl w0 ps cs ts[i].s ∧ StrSl w0 pi ci ts[i].i
theorem OwnM.nil (w0 w : World) : OwnM w0 w (.slice none 0 0) [] := ⟨[], ⟨rfl, .inl ⟨rfl, rfl⟩⟩, fun b h => (by cases h), rfl, fun i h => by simp at h⟩
theorem OwnM.new {w0 w : World} {v : Value} {ts : List Ml} (h : OwnM w0 w v ts) : ∀ b, v.ownBlock = some b → w0.heap.size ≤ b := by obtain ⟨F, _, h2, _⟩ := h; exact h2
theorem OwnM.keep {P : Nat → Prop} {w0 w w' : World} {v : Value} {ts : List Ml} (h : OwnM w0 w v ts) (ht : Touch P w w') (hf : ∀ b, v.ownBlock = some b → ¬ P b) : OwnM w0 w' v ts := by
  obtain ⟨F, h1, h2, h3, h4⟩ := h
  exact ⟨F, ht.owns h1 hf, h2, h3, h4⟩
theorem OwnM.isSl {w0 w : World} {v : Value} {ts : List Ml} (h : OwnM w0 w v ts) : ∃ p c, v = .slice p ts.length c := by
  obtain ⟨F, h1, _⟩ := h
  rcases h1.2 with ⟨hv, h0⟩ | ⟨g, cap, cur, hv, _, hg, hnc, _⟩
  · exact ⟨none, 0, by rw [hv, h0]⟩
  · exact ⟨_, _, hv⟩

theorem flat_at : ∀ (F : List (List Value)) (i j : Nat) (c : List Value), (∀ x ∈ F, x.length = 7) → F[i]? = some c → j < 7 → F.flatten[i * 7 + j]? = c[j]?
  | [], i, j, c, _, h, _ => by simp at h
  | x :: r, 0, j, c, hl, h, hj => by
    simp at h
    subst h
    rw [List.flatten_cons, Nat.zero_mul, Nat.zero_add, List.getElem?_append_left (by rw [hl x List.mem_cons_self]; exact hj)]
  | x :: r, i + 1, j, c, hl, h, hj => by
    rw [List.flatten_cons, List.getElem?_append_right (by rw [hl x List.mem_cons_self]; omega), hl x List.mem_cons_self, show (i + 1) * 7 + j - 7 = i * 7 + j by omega]
    exact flat_at r i j c (fun y hy => hl y (List.mem_cons_of_mem _ hy)) (by simpa using h) hj

/-- One of the messages. -/
theorem OwnM.at {w0 w : World} {v : Value} {ts : List Ml} (h : OwnM w0 w v ts) {i : Nat} (hi : i < ts.length) :
    ∃ g c ps cs pi ci, v = .slice (some ⟨g, 0, none⟩) ts.length c ∧ w.rangeAt g (0 + i * 7) (mlCs ts[i] ps cs pi ci) ∧ SlSl w0 ps cs ts[i].s ∧ StrSl w0 pi ci ts[i].i := by
  obtain ⟨F, h1, h2, h3, h4⟩ := h
  obtain ⟨ps, cs, pi, ci, hF, hS, hI⟩ := h4 i hi
  have hl : ∀ x ∈ F, x.length = 7 := by
    intro x hx
    obtain ⟨j, hj, rfl⟩ := List.mem_iff_getElem.1 hx
    obtain ⟨ps, cs, pi, ci, hF, _⟩ := h4 j (by omega)
    rw [List.getElem?_eq_getElem hj] at hF
    rw [Option.some.inj hF]
    rfl
  rcases h1.2 with ⟨hv, h0⟩ | ⟨g, cap, cur, hv, _, hg, hnc, _⟩
  · omega
  · refine ⟨g, cap, ps, cs, pi, ci, hv, fun j u hu => ?_, hS, hI⟩
    have hj7 : j < 7 := (List.getElem?_eq_some_iff.1 hu).1
    have hc := h1.cells (g := g) (by rw [hv]; rfl) (i * 7 + j) u (by rw [flat_at F i j _ hl hF hj7]; exact hu)
    rw [Addr.add_lit] at hc
    rw [Nat.zero_add]
    simpa using hc

theorem ownMT_ne {B : Nat} {w0 w : World} {v u : Value} {ts : List Ml} {T : List ByteArray} (h : OwnM w0 w v ts) (k : OwnT B w u T) {b : Nat} (hb : v.ownBlock = some b) : u.ownBlock ≠ some b := by
  intro hc
  obtain ⟨F, h1, _⟩ := h
  rcases h1.2 with ⟨hv, _⟩ | ⟨g, cap, cur, hv, _, hg, _⟩
  · rw [hv] at hb; cases hb
  · rcases k.1.2 with ⟨hv2, _⟩ | ⟨g2, cap2, cur2, hv2, _, hg2, _⟩
    · rw [hv2] at hc; cases hc
    · rw [hv] at hb
      rw [hv2] at hc
      obtain rfl : g = b := by simpa [Value.ownBlock] using hb
      obtain rfl : g2 = g := by simpa [Value.ownBlock] using hc
      rw [hg] at hg2
      cases hg2

theorem wp_appM {o : Oper} {a : Act} {w0 w : World} {K : Act → World → Prop} {Q : Exit → Act → World → Prop} (s x : Operand)
    (ho : o.op = .call { callee := .builtin .append, args := #[s, x], argTypes := #[45, 45] }) {v : Value} {ts : List Ml} {y : Ml} {ps : Option Addr} {cs : Nat} {pi : Option Addr} {ci : Nat} {g : Nat} (hs : a.eval s = v) (hO : OwnM w0 w v ts) (hx : a.eval x = .slice (some ⟨g, 0, none⟩) 1 1)
    (hg : w.heap[g]? = some (.cells (mlCs y ps cs pi ci).toArray 49)) (hS : SlSl w0 ps cs y.s) (hI : StrSl w0 pi ci y.i) (ht : w0.heap.size ≤ w.heap.size) (hn : (ts.length + 1) * 104 ≤ 140737488355328)
    (k : ∀ v' w', OwnM w0 w' v' (ts ++ [y]) → Touch (fun b => v.ownBlock = some b) w w' → K (a.put o.dst v') w') : o.wp Try.prog a w K Q := by
  obtain ⟨F, h1, h2, h3, h4⟩ := hO
  refine wp_app elt49 s x ho hs h1 hx (m := 1) (news := mlCs y ps cs pi ci) (.inr ⟨⟨g, 0, none⟩, 1, rfl, rfl, fun j u hu => ?_, mlCs_one _ _ _ _ _⟩) rfl (zs := (F ++ [mlCs y ps cs pi ci]).flatten) (by simp) (by unfold maxLen; omega) hn ?_
  · rw [Addr.add_lit, Nat.zero_add, cell_blk hg j]
    simpa using hu
  · intro v' w' ho' hgr hor
    refine k v' w' ⟨F ++ [mlCs y ps cs pi ci], by rw [List.length_append]; exact ho', fun b hb => ?_, by rw [List.length_append, List.length_append, h3]; rfl, fun i hi => ?_⟩ ((Touch.refl _ w).grown hgr (fun _ _ q => q))
    · rcases hor with h | h
      · exact h2 b (by rw [← h]; exact hb)
      · rw [hb] at h
        obtain rfl : b = w.heap.size := by simpa using h
        exact ht
    · by_cases q : i < ts.length
      · obtain ⟨ps', cs', pi', ci', e1, e2, e3⟩ := h4 i q
        rw [List.getElem_append_left q]
        exact ⟨ps', cs', pi', ci', by rw [List.getElem?_append_left (by omega)]; exact e1, e2, e3⟩
      · have e : i = ts.length := by rw [List.length_append] at hi; simp at hi; omega
        subst e
        rw [List.getElem_append_right (Nat.le_refl _)]
        simp only [Nat.sub_self, List.getElem_cons_zero]
        exact ⟨ps, cs, pi, ci, by rw [List.getElem?_append_right (by omega), h3, Nat.sub_self]; rfl, hS, hI⟩

section
variable {a : Act} {w : World} {op : Oper}
theorem run_ia45 {x y : Operand} {g o n c : Nat} (i : Nat) (ho : op.op = .indexAddr 45 x y) (hx : a.eval x = .slice (some ⟨g, o, none⟩) n c) (hy : a.eval y = .int .i64 (i : Int)) (hi : i < n) :
    (execOp a.eval op).run Try.prog w = .ok (.value (.pointer (some ⟨g, o + i * 7, none⟩))) w := by
  have h0 : (0 : Int) ≤ (i : Int) := by omega
  have h1 : (i : Int) < (n : Int) := by omega
  unfold execOp
  simp only [ho, hx, hy]
  go_simp
theorem bs45 (w : World) (c0 c1 c2 c3 c4 c5 c6 : Value) : (Instr.buildSlice 45 1 #[(0, .agg [c0, c1, c2, c3, c4, c5, c6].toArray)]).run Try.prog w = .ok (.slice (some ⟨w.heap.size, 0, none⟩) 1 1) (w.alloc (.cells [c0, c1, c2, c3, c4, c5, c6].toArray 49)) := by kernel_rfl
theorem run_bs45 {x : Operand} {m : Ml} {ps : Option Addr} {cs : Nat} {pi : Option Addr} {ci : Nat} (ho : op.op = .buildSlice 45 1 #[(0, x)]) (hx : a.eval x = .agg (mlCs m ps cs pi ci).toArray) :
    (execOp a.eval op).run Try.prog w = .ok (.value (.slice (some ⟨w.heap.size, 0, none⟩) 1 1)) (w.alloc (.cells (mlCs m ps cs pi ci).toArray 49)) := by
  have h : (Instr.buildSlice 45 1 #[(0, .agg (mlCs m ps cs pi ci).toArray)]).run Try.prog w = .ok (.slice (some ⟨w.heap.size, 0, none⟩) 1 1) (w.alloc (.cells (mlCs m ps cs pi ci).toArray 49)) := bs45 w _ _ _ _ _ _ _
  unfold execOp
  simp only [ho, List.map_toArray, List.map_cons, List.map_nil, hx, Sem.run_bind, h, Result.andThen_ok, Sem.run_pure]
end
theorem info49l (m : Ml) (ps : Option Addr) (cs : Nat) (pi : Option Addr) (ci : Nat) : (Try.prog.info? 49).map (·.size) = some (mlCs m ps cs pi ci).length := by
  show _ = some 7
  kernel_rfl

end Go.Proofs.Ytoegkcjclgmnbaa
