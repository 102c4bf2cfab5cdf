/-
  Links at any length; the sums of the rates of all links.
-/
import Derived.Test.YtkoplgpobagfoaaLp
import Derived.Test.YtkoplgpobagfoaaVy
import Derived.Test.YtkoplgpobagfoaaWd
namespace Go.Proofs.Ytkoplgpobagfoaa
open Go.RowKit
set_option linter.unusedVariables false
set_option linter.unusedSimpArgs false

set_option maxRecDepth 100000 in
theorem Links_bad (w : World) (v : Value) (M : List Fr) (hM : FrA w v M) (hb : (chkR M).2 ≠ 0) : Calls Try.prog 12 #[v] w (LinksPost w (linksR M)) := by
  obtain ⟨res, hres⟩ : ∃ x, x = linksR M := ⟨_, rfl⟩
  rw [← hres]
  unfold linksR at hres
  rw [if_pos hb] at hres
  obtain ⟨p0, c0, hv, hsl⟩ := hM.sl
  have hC : Calls Try.prog 21 #[v] w fun r w2 => r = .returned (.tuple #[.int .i64 (chkR M).1, .int .i64 (chkR M).2]) ∧ Touch Nothing w w2 := by rw [hv]; exact Check_any w p0 c0 M hsl
  obtain ⟨⟨q, e⟩, hq⟩ : ∃ y, y = chkR M := ⟨_, rfl⟩
  rw [← hq] at hres hC hb
  simp only [] at hres hC hb
  subst hres
  have e1 : (e == 0) = false := by simp [hb]
  have e2 : (e != 0) = true := by simp [hb]
  replace hC := Lib.hid hC
  clear hq hM hsl hv
  go_enter Try.func12, Try.ntmps12
  go_wp2_with (first | (go_at_call 21; refine hC.out.mono ?_; rintro r w1 ⟨rfl, t1⟩))
  go_ret2
  exact ⟨_, rfl, .inl ⟨rfl, rfl⟩, t1⟩

/-- Links of any view. -/
theorem Links_all (w : World) (v : Value) (M : List Fr) (hM : FrA w v M) : Calls Try.prog 12 #[v] w (LinksPost w (linksR M)) := by
  by_cases h : (chkR M).2 = 0
  · have hl := (chkR_ok h).1
    exact Links_any w v M hM (sorts_any 35 cmpFT cf35 (fun w x y => less_links w x y) weakFT M (by omega)) (by omega)
  · exact Links_bad w v M hM h

theorem linksR_ok {M : List Fr} (h : (chkR M).2 = 0) : linksR M = (linksK M, 0) := by
  unfold linksR
  rw [if_neg (by rw [h]; simp)]
  rfl
theorem linksR_bad {M : List Fr} (h : (chkR M).2 ≠ 0) : linksR M = ([], (chkR M).2) := by
  unfold linksR
  rw [if_pos h]

theorem OwnK.sl {w0 w : World} {v : Value} {L : List Fr} (h : OwnK w0 w v L) : ∃ p c, v = .slice p L.length c ∧ FrSl w p c L := by
  rcases h with ⟨rfl, rfl⟩ | ⟨g, c, rfl, hr, _, hc, _⟩
  · exact ⟨none, 0, rfl, Nat.zero_le _, fun i hi => by simp at hi⟩
  · refine ⟨_, c, rfl, hc, fun i hi => ⟨g, 0, rfl, fun j v hv => ?_⟩⟩
    have hj : j < 4 := (List.getElem?_eq_some_iff.1 hv).1
    rw [Nat.zero_add, hr.cell i j hi hj]
    exact hv

/-! ### Sums -/

theorem sum_set : ∀ (ns : List Int) (i : Nat) (_ : i < ns.length), (ns.set i (ns.getD i 0 + 1)).sum = ns.sum + 1
  | [], i, h => by simp at h
  | n :: r, 0, _ => by simp; omega
  | n :: r, i + 1, h => by
    have := sum_set r i (by simpa using h)
    simp at this ⊢
    omega
theorem cnt_cons (f t : Int) (x : Fr) (r : List Fr) : cnt f t (x :: r) = (if x.f = f ∧ x.t = t then 1 else 0) + cnt f t r := by
  unfold cnt
  rw [List.filter_cons]
  by_cases h : x.f = f ∧ x.t = t
  · rw [if_pos (onK_iff.2 h), if_pos h]; simp; omega
  · rw [if_neg (fun q => h (onK_iff.1 q)), if_neg h]; omega
theorem rgo_sum (f t wd : Int) : ∀ (M : List Fr) (ns : List Int), (∀ x ∈ M, (x.a / wd).toNat < ns.length) → (rgo f t wd ns M).sum = ns.sum + cnt f t M
  | [], ns, _ => by simp [rgo, cnt]
  | x :: r, ns, h => by
    have hx := h x List.mem_cons_self
    rw [rgo, rgo_sum f t wd r _ (fun y hy => by rw [rstep_len]; exact h y (List.mem_cons_of_mem _ hy)), cnt_cons]
    unfold rstep
    by_cases q : x.f = f ∧ x.t = t
    · rw [if_pos q, if_pos q, sum_set ns _ hx]; omega
    · rw [if_neg q, if_neg q]; omega
theorem rgo_nonneg (f t wd : Int) : ∀ (M : List Fr) (ns : List Int), (∀ m ∈ ns, (0 : Int) ≤ m) → ∀ m ∈ rgo f t wd ns M, (0 : Int) ≤ m
  | [], ns, h => h
  | x :: r, ns, h => by
    rw [rgo]
    refine rgo_nonneg f t wd r _ fun m hm => ?_
    unfold rstep at hm
    split at hm
    · rcases List.mem_or_eq_of_mem_set hm with h1 | rfl
      · exact h m h1
      · rw [List.getD_eq_getElem?_getD]
        cases hq : ns[(x.a / wd).toNat]? with
        | none => simp
        | some y => have := h y (List.mem_of_getElem? hq); simp; omega
    · exact h m hm
theorem rgo_len (f t wd : Int) : ∀ (M : List Fr) (ns : List Int), (rgo f t wd ns M).length = ns.length
  | [], _ => rfl
  | x :: r, ns => by rw [rgo, rgo_len f t wd r, rstep_len]

/-- The rates of a view that may be: too long for each link, or as many as went. -/
theorem rates_cases {L : List Fr} (h : (chkR L).2 = 0) (hn : L ≠ []) {wd : Int} (h1 : 1 ≤ wd) (h2 : wd ≤ 1048576) :
    (∀ f t, ratesR L f t wd = ([], 2)) ∨ ∀ f t, ∃ N, ratesR L f t wd = (N, 0) ∧ N.sum = cnt f t L ∧ (∀ m ∈ N, (0 : Int) ≤ m) ∧ N.length ≤ 65536 := by
  have hc : ¬ (wd < 1 ∨ 1048576 < wd) := by omega
  by_cases hb : 65536 < lastA L / wd + 1
  · refine .inl fun f t => ?_
    unfold ratesR
    rw [if_neg (by rw [h]; simp), if_neg hc, if_neg hn, if_pos hb]
  · refine .inr fun f t => ⟨rgo f t wd (List.replicate (lastA L / wd + 1).toNat 0) L, ?_, ?_, ?_, ?_⟩
    · unfold ratesR
      rw [if_neg (by rw [h]; simp), if_neg hc, if_neg hn, if_neg hb]
    · rw [rgo_sum]
      · have : (List.replicate (lastA L / wd + 1).toNat (0 : Int)).sum = 0 := by
          generalize (lastA L / wd + 1).toNat = n
          induction n with
          | zero => rfl
          | succ n ih => rw [List.replicate_succ, List.sum_cons, ih]; rfl
        rw [this, Int.zero_add]
      · intro x hx
        rw [List.length_replicate]
        obtain ⟨a1, a2⟩ := chkR_mono h x hx
        have q1 := Int.ediv_nonneg a1 (by omega : 0 ≤ wd)
        have q2 := Int.ediv_le_ediv (c := wd) (by omega) a2
        omega
    · exact rgo_nonneg f t wd L _ fun m hm => by rw [List.eq_of_mem_replicate hm]; omega
    · rw [rgo_len, List.length_replicate]; omega

theorem sum_take_le : ∀ (N : List Int) (j : Nat), (∀ m ∈ N, (0 : Int) ≤ m) → 0 ≤ (N.take j).sum ∧ (N.take j).sum ≤ N.sum
  | [], j, _ => by simp
  | n :: r, 0, h => by
    have := (sum_take_le r r.length fun m hm => h m (List.mem_cons_of_mem _ hm)).1
    rw [List.take_length] at this
    have h0 := h n List.mem_cons_self
    simp
    omega
  | n :: r, j + 1, h => by
    have := sum_take_le r j fun m hm => h m (List.mem_cons_of_mem _ hm)
    have h0 := h n List.mem_cons_self
    simp
    omega
theorem sum_snoc (N : List Int) (j : Nat) (h : j < N.length) : (N.take (j + 1)).sum = (N.take j).sum + N[j] := by
  rw [List.take_succ_eq_append_getElem h, List.sum_append, List.sum_cons, List.sum_nil, Int.add_zero]
theorem sumT_snoc (N : List Fr) (j : Nat) (h : j < N.length) : sumT (N.take (j + 1)) = sumT (N.take j) + N[j].t := by
  rw [List.take_succ_eq_append_getElem h, sumT_app, show sumT [N[j]] = N[j].t by simp [sumT]]
theorem sumL_snoc (N : List Fr) (j : Nat) (h : j < N.length) : sumL (N.take (j + 1)) = sumL (N.take j) + N[j].l := by
  rw [List.take_succ_eq_append_getElem h, sumL_app, show sumL [N[j]] = N[j].l by simp [sumL]]
theorem sumT_le (N : List Fr) (j : Nat) (h : ∀ y ∈ N, 0 ≤ y.t) : 0 ≤ sumT (N.take j) ∧ sumT (N.take j) ≤ sumT N := by
  have := sum_take_le (N.map Fr.t) j fun m hm => by obtain ⟨y, hy, rfl⟩ := List.mem_map.1 hm; exact h y hy
  rw [← List.map_take] at this
  exact this
theorem sumL_le (N : List Fr) (j : Nat) (h : ∀ y ∈ N, 0 ≤ y.l) : 0 ≤ sumL (N.take j) ∧ sumL (N.take j) ≤ sumL N := by
  have := sum_take_le (N.map Fr.l) j fun m hm => by obtain ⟨y, hy, rfl⟩ := List.mem_map.1 hm; exact h y hy
  rw [← List.map_take] at this
  exact this
theorem sumL_bnd (B : Int) : ∀ (N : List Fr), (∀ y ∈ N, y.l ≤ B) → sumL N ≤ B * N.length
  | [], _ => by simp [sumL]
  | y :: r, h => by
    have h1 := sumL_bnd B r fun z hz => h z (List.mem_cons_of_mem _ hz)
    have h2 := h y List.mem_cons_self
    have e : sumL (y :: r) = y.l + sumL r := by simp [sumL]
    rw [e, List.length_cons, Int.natCast_add, Int.mul_add]
    omega

/-- What the walk of ViewSums leans on. -/
structure Sums (L K : List Fr) : Prop where
  up : K.Pairwise keyLt
  t0 : ∀ y ∈ K, 0 ≤ y.t
  l0 : ∀ y ∈ K, 0 ≤ y.l
  c : ∀ y ∈ K, cnt y.a y.f L = y.t
  sT : sumT K = L.length
  sL : sumL K = sumL L
  x0 : ∀ x ∈ L, 0 ≤ x.l ∧ x.l ≤ 65536
  all : L.filter (inB 0 2147483647) = L
  kn : K ≠ [] → L ≠ []
  kl : K.length ≤ L.length

theorem sumT_ge : ∀ (N : List Fr), (∀ y ∈ N, 1 ≤ y.t) → (N.length : Int) ≤ sumT N
  | [], _ => by simp [sumT]
  | y :: r, h => by
    have h1 := sumT_ge r fun z hz => h z (List.mem_cons_of_mem _ hz)
    have h2 := h y List.mem_cons_self
    have e : sumT (y :: r) = y.t + sumT r := by simp [sumT]
    rw [e, List.length_cons]
    omega

theorem sums_of {L : List Fr} (h : (chkR L).2 = 0) : Sums L (linksK L) := by
  have hK := linksK_of L
  obtain ⟨_, h1, h2⟩ := links_same L
  have hb := (chkR_ok h).2
  have hc : ∀ y ∈ linksK L, cnt y.a y.f L = y.t := fun y hy => by
    have e := congrArg Fr.t (hK.is y hy)
    exact e.symm
  have hl : ∀ y ∈ linksK L, sml y.a y.f L = y.l := fun y hy => by
    have e := congrArg Fr.l (hK.is y hy)
    exact e.symm
  have hx : ∀ x ∈ L, 0 ≤ x.l ∧ x.l ≤ 65536 := fun x hx => by
    have := hb x hx
    unfold bad at this
    omega
  refine ⟨hK.up, fun y hy => by rw [← hc y hy]; unfold cnt; omega, fun y hy => ?_, hc, h1, h2, hx, List.filter_eq_self.2 fun x hx => ?_, fun hn e => ?_, ?_⟩
  · rw [← hl y hy]
    have := (sum_take_le ((L.filter (onK y.a y.f)).map Fr.l) 0 fun m hm => by obtain ⟨z, hz, rfl⟩ := List.mem_map.1 hm; exact (hx z (List.mem_filter.1 hz).1).1)
    unfold sml
    simp at this
    exact this
  · have := hb x hx
    unfold bad at this
    unfold inB outB
    simp
    omega
  · subst e
    exact hn rfl
  · have := sumT_ge (linksK L) fun y hy => by
      rw [← hc y hy]
      obtain ⟨x, hx, e⟩ := hK.got y hy
      have := List.length_pos_of_mem (List.mem_filter.2 ⟨hx, onK_iff.2 e⟩)
      unfold cnt
      omega
    omega

end Go.Proofs.Ytkoplgpobagfoaa
