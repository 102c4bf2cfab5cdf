/-
  Layer 23: slices.DeleteFunc with 'old': the loops that are not forgotten, in their order, in the block in which they were.
-/
import Derived.Test.YtikjcobdddjlbaaRow
import Derived.Deep.DeepCutAuto
namespace Go.Proofs.Ytikjcobdddjlbaa
open Go.RowKit
set_option linter.unusedVariables false
set_option linter.unusedSimpArgs false

theorem owns_set {w : World} {base : Nat} {e : TypeId} {size g n c : Nat} {xs : List Value} (h : w.ownsRow base e size (.slice (some ⟨g, 0, none⟩) n c) n xs) (o : Nat) (u : Value) :
    (w.setCell ⟨g, o, none⟩ u).ownsRow base e size (.slice (some ⟨g, 0, none⟩) n c) n (xs.set o u) := by
  refine ⟨by simpa using h.1, ?_⟩
  rcases h.2 with ⟨hv, h0⟩ | ⟨g', cap, cur, hv, hb, hg, hnc, hcm, hcs, ht⟩
  · cases hv
  · cases hv
    exact .inr ⟨g, c, _, rfl, hb, heap_setCell_same hg o u, hnc, hcm, by simpa using hcs, by rw [Array.toList_setIfInBounds, List.take_set, ht]⟩

theorem rowC_set (r : List Lp) : ∀ (i : Nat), i < r.length → ∀ x : Lp, rowC (r.set i x) = (((rowC r).set (i * 3) (.string x.id)).set (i * 3 + 1) (.int .i64 x.at_)).set (i * 3 + 2) (.bool x.came) := by
  induction r with
  | nil => intro i h; simp at h
  | cons a r ih =>
    intro i h x
    cases i with
    | zero => simp [rowC, lpC]
    | succ i =>
      have := ih i (by simpa using h) x
      have e : ∀ (a : Lp) (r : List Lp), rowC (a :: r) = .string a.id :: .int .i64 a.at_ :: .bool a.came :: rowC r := fun a r => by simp [rowC, lpC]
      rw [List.set_cons_succ, e, e, this, show (i + 1) * 3 = i * 3 + 1 + 1 + 1 by omega]
      simp [List.set_cons_succ, show i * 3 + 1 + 1 + 1 + 1 = (i * 3 + 1) + 1 + 1 + 1 by omega, show i * 3 + 1 + 1 + 1 + 2 = (i * 3 + 2) + 1 + 1 + 1 by omega]

theorem row_set {w : World} {base g n c : Nat} {r : List Lp} (h : w.ownsRow base 61 3 (.slice (some ⟨g, 0, none⟩) n c) n (rowC r)) {i : Nat} (hi : i < r.length) (x : Lp) :
    (((w.setCell ⟨g, i * 3, none⟩ (.string x.id)).setCell ⟨g, i * 3 + 1, none⟩ (.int .i64 x.at_)).setCell ⟨g, i * 3 + 2, none⟩ (.bool x.came)).ownsRow base 61 3 (.slice (some ⟨g, 0, none⟩) n c) n (rowC (r.set i x)) := by
  rw [rowC_set r i hi x]
  exact owns_set (owns_set (owns_set h _ _) _ _) _ _

theorem rowC_take : ∀ (r : List Lp) (i : Nat), (rowC r).take (i * 3) = rowC (r.take i)
  | [], i => by simp [rowC]
  | a :: r, 0 => by simp [rowC]
  | a :: r, i + 1 => by
    have e : ∀ (a : Lp) (r : List Lp), rowC (a :: r) = .string a.id :: .int .i64 a.at_ :: .bool a.came :: rowC r := fun a r => by simp [rowC, lpC]
    rw [List.take_succ_cons, e, e, ← rowC_take r i, show (i + 1) * 3 = i * 3 + 1 + 1 + 1 by omega]
    simp [List.take_succ_cons]

theorem loopsE : Elt Try.prog 54 61 3 32 := Elt.mk' (z := .agg #[.string ⟨#[]⟩, .int .i64 0, .bool false]) Try.underlying54 (by kernel_rfl) rfl (by decide)

theorem zero61 (w : World) : (zeroValue 61).run Try.prog w = .ok (.agg #[.string ⟨#[]⟩, .int .i64 0, .bool false]) w := by
  exact Try.zeroValue61 w

theorem setCells_touch {F : Nat → Prop} (b : Nat) : ∀ (vs : List Value) (o : Nat) (a w : World), Touch F a w → (b < a.heap.size → F b) → Touch F a (w.setCells b o vs)
  | [], _, _, _, h, _ => h
  | v :: r, o, a, w, h, hb => setCells_touch b r (o + 1) a _ (h.setCell (p := ⟨b, o, none⟩) hb v) hb

theorem setCells_front {base : Nat} {e : TypeId} {size g n c m : Nat} : ∀ (vs : List Value) (o : Nat) (w : World) (xs : List Value), w.ownsRow base e size (.slice (some ⟨g, 0, none⟩) n c) n xs → m ≤ o →
    ∃ xs', (w.setCells g o vs).ownsRow base e size (.slice (some ⟨g, 0, none⟩) n c) n xs' ∧ xs'.take m = xs.take m
  | [], _, _, xs, h, _ => ⟨xs, h, rfl⟩
  | v :: r, o, w, xs, h, hm => by
    obtain ⟨xs', h1, h2⟩ := setCells_front (m := m) r (o + 1) _ _ (owns_set h o v) (by omega)
    exact ⟨xs', h1, by rw [h2, List.take_set_of_le hm]⟩

theorem owns_front {w : World} {base : Nat} {e : TypeId} {size g n c k : Nat} {xs : List Value} (h : w.ownsRow base e size (.slice (some ⟨g, 0, none⟩) n c) n xs) (hk : k ≤ n) :
    w.ownsRow base e size (.slice (some ⟨g, 0, none⟩) k c) k (xs.take (k * size)) := by
  have hmul : k * size ≤ n * size := Nat.mul_le_mul_right _ hk
  refine ⟨by rw [List.length_take, h.1]; omega, ?_⟩
  rcases h.2 with ⟨hv, h0⟩ | ⟨g', cap, cur, hv, hb, hg, hnc, hcm, hcs, ht⟩
  · cases hv
  · cases hv
    exact .inr ⟨g, c, cur, rfl, hb, hg, by omega, hcm, hcs, by rw [← ht, List.take_take, Nat.min_eq_left hmul]⟩

theorem run_clear_row {w : World} {g n c : Nat} {xs : List Value} (h : w.ownsRow 0 61 3 (.slice (some ⟨g, 0, none⟩) n c) n xs) {i : Nat} (hi : i < n) (ty : TypeId) (c' m : Nat) (hm : m = n - i) :
    (Builtin.clear_ #[54] ty #[.slice (some ⟨g, i * 3, none⟩) m c']).run Try.prog w = .ok (.tuple #[]) (w.setCells g (i * 3) (Builtin.zeroCells (Value.agg #[.string ⟨#[]⟩, .int .i64 0, .bool false]).cells m).toList) := by
  have hz : ((Builtin.zeroCells (Value.agg #[.string ⟨#[]⟩, .int .i64 0, .bool false]).cells m)).toList.length = m * 3 := by
    rw [Array.length_toList]
    simp [Builtin.zeroCells, Value.cells]
  have h1 : ∀ v ∈ (Builtin.zeroCells (Value.agg #[.string ⟨#[]⟩, .int .i64 0, .bool false]).cells m).toList, v.oneCell' = true := by
    intro v hv
    simp [Builtin.zeroCells, Value.cells] at hv
    obtain ⟨k, hk, rfl⟩ := hv
    have : k % 3 < 3 := Nat.mod_lt _ (by omega)
    generalize k % 3 = q at this
    match q, this with
    | 0, _ => rfl
    | 1, _ => rfl
    | 2, _ => rfl
  generalize hzs : (Builtin.zeroCells (Value.agg #[.string ⟨#[]⟩, .int .i64 0, .bool false]).cells m).toList = zs at hz h1
  have hst := run_storeCells_cells (P := Try.prog) g (i * 3) zs 0 w (fun j hj => ?_) (fun j hj => ?_) h1
  · obtain ⟨q, rfl⟩ : ∃ q, m = q + 1 := ⟨m - 1, by omega⟩
    simp only [Nat.add_zero] at hst
    simp [Builtin.clear_, run_underlying Try.underlying54, zero61, hzs, hst]
  · have hl := h.1
    have := h.cells (g := g) rfl (i * 3 + 0 + j) (xs[i * 3 + 0 + j]'(by omega)) (List.getElem?_eq_getElem _)
    rw [Addr.add_lit, Nat.zero_add] at this
    rw [this]; rfl
  · rcases h.2 with ⟨hv, h0⟩ | ⟨g', cap, cur, hv, hb, hg, _⟩
    · cases hv
    · cases hv
      exact frozen_blk hg _

/-- What a round keeps, and what it moves. -/
theorem keep_no {l r : List Lp} {p : Lp → Bool} {i j : Nat} (hij : i < j) (hj : j < l.length) (h : r.length = l.length ∧ r.take i = (l.take j).filter p ∧ r.drop j = l.drop j) (hp : p l[j] = false) :
    r.length = l.length ∧ r.take i = (l.take (j + 1)).filter p ∧ r.drop (j + 1) = l.drop (j + 1) := by
  obtain ⟨h1, h2, h3⟩ := h
  refine ⟨h1, ?_, ?_⟩
  · rw [List.take_add_one, List.getElem?_eq_getElem hj, List.filter_append, ← h2]; simp [hp]
  · rw [← List.drop_drop, ← List.drop_drop, h3]

theorem keep_yes {l r : List Lp} {p : Lp → Bool} {i j : Nat} (hij : i < j) (hj : j < l.length) (h : r.length = l.length ∧ r.take i = (l.take j).filter p ∧ r.drop j = l.drop j) (hp : p l[j] = true) :
    (r.set i l[j]).length = l.length ∧ (r.set i l[j]).take (i + 1) = (l.take (j + 1)).filter p ∧ (r.set i l[j]).drop (j + 1) = l.drop (j + 1) := by
  obtain ⟨h1, h2, h3⟩ := h
  refine ⟨by simpa using h1, ?_, ?_⟩
  · rw [List.take_add_one, List.take_add_one, List.getElem?_eq_getElem hj, List.filter_append, ← h2, List.take_set_of_le (Nat.le_refl _)]
    rw [List.getElem?_set_self (by omega)]
    simp [hp]
  · rw [List.drop_set_of_lt (by omega), ← List.drop_drop, ← List.drop_drop, h3]

set_option maxHeartbeats 1600000 in
theorem delete_any {w : World} {g : Nat} {s : Lg} {sv : Value} (hb : w.heap[g]? = some (ledC s sv)) (hs : s.Ok) {v : Value} {n : Nat} {l : List Lp} (h : w.ownsRow 0 61 3 v n (rowC l)) (hn : n = l.length) (hl : ∀ x ∈ l, 0 ≤ x.at_ ∧ x.at_ ≤ 1099511627776) (hm : n ≤ 4096)
    (hg : v.ownBlock ≠ some g) :
    Calls Try.prog 33 #[v, .func (.func 32) #[.pointer (some ⟨g, 0, none⟩)] #[]] w fun e w' => Touch (fun k => v.ownBlock = some k) w w' ∧
      ∃ v', e = .returned v' ∧ w'.ownsRow 0 61 3 v' (l.filter fun x => !oldAt s.W s.D s.now x).length (rowC (l.filter fun x => !oldAt s.W s.D s.now x)) ∧ v'.ownBlock = v.ownBlock := by
  have hI := index_any hb hs h hn hl hm
  obtain ⟨a, c, rfl⟩ := owns_slice h
  replace hn := Lib.hid hn
  replace hl := Lib.hid hl
  replace hI := Lib.hid hI
  go_enter Try.func33, Try.ntmps33
  go_upto_if 12 with (go_at_call 34; refine hI.out.mono ?_; rintro e w1 ⟨ht1, hcase⟩; replace hcase := Lib.hid hcase; obtain ⟨rfl, hno⟩ | ⟨i0, hi0, rfl, hyes, hbef⟩ := hcase.out)
  · go_wp2
    go_ret
    have e : (l.filter fun x => !oldAt s.W s.D s.now x) = l := List.filter_eq_self.2 fun x hx => by simp [hno x hx]
    rw [e]
    have := hn.out
    subst this
    exact ⟨ht1.mono fun _ _ q => q.elim, _, rfl, ht1.owns h (fun _ _ q => q), rfl⟩
  · obtain ⟨gb, cap, hv, _, _⟩ := row_cells h hi0
    cases hv
    have hgb : g ≠ gb := fun e => hg (by rw [e]; rfl)
    have h1 := ht1.owns h (fun _ _ q => q)
    replace hyes := Lib.hid hyes
    replace hbef := Lib.hid hbef
    have hin : i0 < n := by have := hn.out; omega
    have hne : ((i0 : Int) == -1) = false := by (have : (i0 : Int) ≠ -1 := by omega); simp [this]
    go_wp2
    go_loopw [5, 6] (fun iv jv wr => ∃ (i j : Nat) (r : List Lp), i < j ∧ j ≤ n ∧ iv = .int .i64 (i : Int) ∧ jv = .int .i64 (j : Int) ∧ wr.ownsRow 0 61 3 (.slice (some ⟨gb, 0, none⟩) n c) n (rowC r) ∧ Touch (fun k => k = gb) w wr ∧
      Hid (r.length = n ∧ r.take i = (l.take j).filter (fun x => !oldAt s.W s.D s.now x) ∧ r.drop j = l.drop j)) (fun _ jv _ => n - (intOf jv).toNat)
    case atStart =>
      refine ⟨i0, i0 + 1, l, by omega, by omega, rfl, by simp, h1, ht1.mono fun _ _ q => q.elim, hn.out.symm, ?_, rfl⟩
      rw [List.take_add_one, List.getElem?_eq_getElem hi0, List.filter_append]
      have e1 : ((l.take i0).filter fun x => !oldAt s.W s.D s.now x) = l.take i0 := List.filter_eq_self.2 fun x hx => by
        obtain ⟨j, hj, rfl⟩ := List.mem_iff_getElem.1 hx
        rw [List.getElem_take]
        rw [List.length_take] at hj
        rw [hbef.out j (by omega)]; rfl
      rw [e1]
      simp [hyes.out]
    case round =>
      obtain ⟨i, j, r, hij, hjn, rfl, rfl, hown, ht, hr⟩ := hrel
      by_cases hlt : j < n
      · have hjl : j < l.length := by have := hn.out; omega
        have hjr : j < r.length := by have := hr.out.1; omega
        have hrx : r[j] = l[j] := by
          have := congrArg (fun z => z[0]?) hr.out.2.2
          simp only [List.getElem?_drop, Nat.add_zero, List.getElem?_eq_getElem hjr, List.getElem?_eq_getElem hjl] at this
          exact Option.some.inj this
        obtain ⟨gb', cap', hv', ⟨c0, c1, c2⟩, hf⟩ := row_cells hown hjr
        cases hv'
        rw [hrx] at c0 c1 c2
        obtain ⟨x, hx⟩ : ∃ x, x = l[j] := ⟨_, rfl⟩
        rw [← hx] at c0 c1 c2
        have hxl : 0 ≤ x.at_ ∧ x.at_ ≤ 1099511627776 := by rw [hx]; exact hl.out _ (List.getElem_mem _)
        obtain ⟨b, hbv⟩ : ∃ b, b = oldAt s.W s.D s.now x := ⟨_, rfl⟩
        have hO : ∀ w2, Touch (fun k => k = gb) w w2 → Calls Try.prog 32 #[.pointer (some ⟨g, 0, none⟩), lpV x] w2 fun e w' => e = .returned (.bool b) ∧ Touch Nothing w2 w' := fun w2 h2 => by rw [hbv]; exact old_any w2 g s sv (h2.heap hb hgb) hs x hxl
        rw [hx] at hbv
        replace hO := Lib.hid hO
        replace hbv := Lib.hid hbv
        replace hx := Lib.hid hx
        replace hrx := Lib.hid hrx
        clear hf hxl
        cases b
        · go_wp2_with (go_at_call 32; refine (hO.out _ (ht.alloc _)).mono ?_; rintro e w2 ⟨rfl, ht2⟩; have hbx := ht2.heap (heap_alloc_new _ _) (fun q => q); have d0 := cell_blk hbx 0; have d1 := cell_blk hbx 1; have d2 := cell_blk hbx 2; have hown2 := ht2.owns (hown.alloc _) (fun _ _ q => q); obtain ⟨gc, capc, hvc, ⟨k0, k1, k2⟩, hf⟩ := row_cells hown2 (by omega : i < r.length); cases hvc; have f0 := hf (i * 3); have f1 := hf (i * 3 + 1); have f2 := hf (i * 3 + 2))
          go_roundw
          case rel =>
            (repeat apply Exists.intro)
            refine ⟨⟨i + 1, j + 1, r.set i x, by omega, by omega, by simp, by simp, ?_, ?_, ?_⟩, rfl⟩
            · exact row_set hown2 (by have := hr.out.1; omega) x
            · exact (((((ht.alloc _).none ht2).setCell (p := ⟨gb, i * 3, none⟩) (fun _ => rfl) _).setCell (p := ⟨gb, i * 3 + 1, none⟩) (fun _ => rfl) _).setCell (p := ⟨gb, i * 3 + 2, none⟩) (fun _ => rfl) _)
            · have hn' := hn.out
              have hk := keep_yes (p := fun x => !oldAt s.W s.D s.now x) hij hjl (by have := hr.out; rwa [hn'] at this) (by simp [← hbv.out])
              rw [hx.out, hn']
              exact Lib.hid hk
          case measure => simp [intOf]; omega
        · go_wp2_with (go_at_call 32; refine (hO.out _ (ht.alloc _)).mono ?_; rintro e w2 ⟨rfl, ht2⟩)
          go_roundw
          case rel =>
            (repeat apply Exists.intro)
            refine ⟨⟨i, j + 1, r, by omega, by omega, rfl, by simp, ht2.owns (hown.alloc _) (fun _ _ q => q), (ht.alloc _).none ht2, ?_⟩, rfl⟩
            have hn' := hn.out
            have hk := keep_no (p := fun x => !oldAt s.W s.D s.now x) hij hjl (by have := hr.out; rwa [hn'] at this) (by simp [← hbv.out])
            rw [hn']
            exact Lib.hid hk
          case measure => simp [intOf]; omega
      · obtain rfl : j = n := by omega
        have hcc : j ≤ c := by
          rcases hown.2 with ⟨hv, h0⟩ | ⟨g', cap, cur, hv, _, _, hnc, _⟩
          · cases hv
          · cases hv; exact hnc
        have hic : (i : Int) ≤ (c : Int) := by omega
        have hijI : (i : Int) ≤ (j : Int) := by omega
        obtain ⟨zs, hcl⟩ : ∃ zs : List Value, ∀ ty c', (Builtin.clear_ #[54] ty #[.slice (some ⟨gb, i * 3, none⟩) (j - i) c']).run Try.prog wr = .ok (.tuple #[]) (wr.setCells gb (i * 3) zs) := by
          obtain ⟨m, hm⟩ : ∃ m, m = j - i := ⟨_, rfl⟩
          rw [← hm]
          exact ⟨_, fun ty c' => run_clear_row hown (by omega : i < j) ty c' m hm⟩
        go_wp2
        go_ret
        obtain ⟨xs', q1, q2⟩ := setCells_front (m := i * 3) zs (i * 3) wr (rowC r) hown (Nat.le_refl _)
        have q3 := owns_front (k := i) q1 (by omega)
        have hn' := hn.out
        obtain ⟨r1, r2, r3⟩ := hr.out
        have hi1 : (r.take i).length = i := by rw [List.length_take]; omega
        rw [q2, rowC_take, r2, hn', List.take_length] at q3
        rw [r2, hn', List.take_length] at hi1
        rw [hi1]
        exact ⟨setCells_touch gb zs (i * 3) _ _ (ht.mono fun k _ q => by rw [q]; rfl) (fun _ => rfl), _, rfl, q3, rfl⟩

end Go.Proofs.Ytikjcobdddjlbaa
