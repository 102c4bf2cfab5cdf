/-
  Layer 11 (mail): a slice of messages that came in, as the walks want it.
-/
import Derived.Test.YtoegkcjclgmnbaaMo
import Derived.Test.YtoegkcjclgmnbaaRecs2
namespace Go.Proofs.Ytoegkcjclgmnbaa
open Go.ChangeShapes Go.WideShapes Go.ChangeAt Go.RowKit Go.Deep
set_option linter.unusedVariables false

/-- A slice of structs in a cell. -/
theorem open_recs0 {H : Type} {enc : TypeId × Value → H} {P : Program} {W : World} {base : Nat} {held : Bool} {t e : TypeId} {fs : Array Field} {fuel : Nat} {u : Value} {x : DataW H × List MemPlace} (ht : P.underlying t = some (.slice e)) (he : P.underlying e = some (.struct fs))
    (hone : oneCellFields P fs = true) (hC : P.cellsOf e = fs.size) (hf : DataW.trod enc P W base (fun _ => true) held fuel t [u] = some x) :
    (u = .slice none 0 0 ∧ x.1 = .nil) ∨
    ∃ (a : Addr) (len cap : Nat) (D : Nat → DataW H) (sp : List (DataW H)), u = .slice (some a) len cap ∧ len ≤ cap ∧ x.1 = .slice ((List.range len).map D) sp ∧
      ∀ i, i < len → ∃ (ys : List (DataW H × List MemPlace)) (n : Nat), D i = .agg (ys.map (·.1)) ∧ ys.length = fs.size ∧
        ∀ (j : Nat) (f : Field), fs[j]? = some f → ∃ (u : Value) (y : DataW H × List MemPlace), W.cell? (a.add (i * fs.size + j)) = some u ∧ ys[j]? = some y ∧ DataW.trod enc P W base (fun _ => true) held n f.type [u] = some y := by
  rcases Go.Deep.open_slice ht hf with ⟨hcs, hx⟩ | ⟨a, len, cap, m, n, D, Pl, hcs, _, hlc, _, hm, hx, hel⟩
  · left
    simp only [List.cons.injEq, and_true] at hcs
    exact ⟨hcs, by rw [hx]⟩
  · right
    simp only [List.cons.injEq, and_true] at hcs
    simp only [if_true] at hm
    refine ⟨a, _, _, D, _, hcs, hlc, by rw [hx], fun i hi => ?_⟩
    obtain ⟨cs, hc, hd⟩ := hel i (by omega)
    rw [hC] at hc
    obtain ⟨ys, k, _, hy, hcl, hyl, hfs⟩ := DataW.trod_struct he hd
    simp only [Prod.mk.injEq] at hy
    obtain ⟨_, hlen, hat⟩ := World.cells?_some hc
    refine ⟨ys, k, hy.1, hyl, fun j f hj => ?_⟩
    obtain ⟨ho, hk⟩ := hone_of hone j f hj
    have hjs : j < fs.size := (Array.getElem?_eq_some_iff.1 hj).1
    have hjc : j < cs.length := by omega
    have hjy : j < ys.length := by omega
    have hr := hfs j f hj
    rw [ho, hk, take_one cs hjc, List.getElem?_eq_getElem hjy] at hr
    refine ⟨cs[j], ys[j], ?_, List.getElem?_eq_getElem hjy, hr⟩
    have := hat j hjs
    rw [Go.Deep.add_add, List.getElem?_eq_getElem hjc] at this
    exact this

/-- Slots in a cell. -/
theorem open_sl0 {H : Type} {enc : TypeId × Value → H} {W : World} {base : Nat} {held : Bool} {fuel : Nat} {v : Value} {x : DataW H × List MemPlace}
    (h : DataW.trod enc Try.prog W base (fun _ => true) held fuel 47 [v] = some x) :
    ∃ (p : Option Addr) (c : Nat) (L : List (ByteArray × ByteArray)), v = .slice p L.length c ∧ SlSl W p c L ∧ (L.length = 0 ∨ ∃ n ∈ x.1.weights Try.prog 47, L.length * 32 ≤ n) := by
  rcases open_recs0 Try.underlying47 Try.underlying74 (by kernel_rfl) (by kernel_rfl) h with ⟨rfl, hx⟩ | ⟨a, len, cap, D, sp, rfl, hlc, hx, hf⟩
  · exact ⟨none, 0, [], rfl, ⟨Nat.zero_le _, fun i hi => by simp at hi⟩, .inl rfl⟩
  · have hr : ∀ i, i < len → ∃ g o, a = ⟨g, o, none⟩ ∧ W.cell? ⟨g, o + i * 2, none⟩ = some (.string (cellS W (a.add (i * 2)))) ∧ W.cell? ⟨g, o + i * 2 + 1, none⟩ = some (.string (cellS W (a.add (i * 2 + 1)))) := by
      intro i hi
      obtain ⟨ys, n, _, _, hj⟩ := hf i hi
      obtain ⟨u0, y0, c0, _, r0⟩ := hj 0 _ rfl
      obtain ⟨u1, y1, c1, _, r1⟩ := hj 1 _ rfl
      have f0 := (field_str Try.underlying9 c0 r0).1
      have f1 := (field_str Try.underlying9 c1 r1).1
      obtain ⟨ys', n', _, _, hj'⟩ := hf 0 (by omega)
      obtain ⟨u', _, c', _, _⟩ := hj' 0 _ rfl
      obtain ⟨b, o', rfl⟩ : ∃ g o, a = ⟨g, o, none⟩ := addr_plain (v := u') (by simpa using c')
      have q0 : W.cell? ((⟨b, o', none⟩ : Addr).add (i * 2)) = some (.string (cellS W ((⟨b, o', none⟩ : Addr).add (i * 2)))) := f0
      have q1 : W.cell? ((⟨b, o', none⟩ : Addr).add (i * 2 + 1)) = some (.string (cellS W ((⟨b, o', none⟩ : Addr).add (i * 2 + 1)))) := f1
      have e0 : ∀ k, (⟨b, o', none⟩ : Addr).add k = ⟨b, o' + k, none⟩ := fun k => by simp [Addr.add]
      refine ⟨b, o', rfl, ?_, ?_⟩
      · rw [e0] at q0 ⊢; exact q0
      · rw [e0] at q1 ⊢; exact q1
    have hl : ((List.range len).map fun i => (cellS W (a.add (i * 2)), cellS W (a.add (i * 2 + 1)))).length = len := by simp
    refine ⟨some a, cap, (List.range len).map fun i => (cellS W (a.add (i * 2)), cellS W (a.add (i * 2 + 1))), by rw [hl], ⟨by rw [hl]; exact hlc, fun i hi => ?_⟩, .inr ⟨(((List.range len).map D).length + sp.length) * Try.prog.bytesOf 74, ?_, ?_⟩⟩
    · have hi2 : i < len := by simpa using hi
      obtain ⟨g, o, e, h1, h2⟩ := hr i hi2
      exact ⟨g, o, by rw [e], by simpa using h1, by simpa using h2⟩
    · rw [hx]
      unfold DataW.weights
      rw [Try.underlying47]
      simp only [List.mem_cons, true_or]
    · rw [show Try.prog.bytesOf 74 = 32 from by kernel_rfl, hl, List.length_map, List.length_range]
      omega

/-- Texts in a cell. -/
theorem open_tx0 {H : Type} {enc : TypeId × Value → H} {W : World} {base : Nat} {held : Bool} {fuel : Nat} {v : Value} {x : DataW H × List MemPlace}
    (h : DataW.trod enc Try.prog W base (fun _ => true) held fuel 22 [v] = some x) :
    ∃ (p : Option Addr) (c : Nat) (L : List ByteArray), v = .slice p L.length c ∧ StrSl W p c L ∧ (L.length = 0 ∨ ∃ n ∈ x.1.weights Try.prog 22, L.length * 16 ≤ n) := by
  rcases Go.Deep.open_slice1 Try.underlying22 (by kernel_rfl) h with ⟨hcs, hx⟩ | ⟨a, len, cap, m, n, V, D, Pl, hcs, _, hlc, _, hm, hx, hel⟩
  · simp only [List.cons.injEq, and_true] at hcs
    subst hcs
    exact ⟨none, 0, [], rfl, ⟨Nat.zero_le _, fun i hi => by simp at hi⟩, .inl rfl⟩
  · simp only [List.cons.injEq, and_true] at hcs
    subst hcs
    simp only [if_true] at hm
    have hl : ((List.range len).map fun i => cellS W (a.add i)).length = len := by simp
    refine ⟨some a, cap, (List.range len).map fun i => cellS W (a.add i), by rw [hl], ⟨by rw [hl]; exact hlc, fun i hi => ?_⟩, .inr ⟨(((List.range len).map D).length + ((List.range (m - len)).map fun j => D (len + j)).length) * Try.prog.bytesOf 9, ?_, ?_⟩⟩
    · have hi2 : i < len := by simpa using hi
      have hc := (hel i (by omega))
      have hc0 := (hel 0 (by omega)).1
      have f0 := (field_str Try.underlying9 hc.1 hc.2).1
      obtain ⟨b, o', rfl⟩ : ∃ g o, a = ⟨g, o, none⟩ := addr_plain (v := V 0) (by simpa using hc0)
      have e0 : ∀ k, (⟨b, o', none⟩ : Addr).add k = ⟨b, o' + k, none⟩ := fun k => by simp [Addr.add]
      refine ⟨b, o', rfl, ?_⟩
      rw [← e0, f0]
      simp
    · rw [hx]
      unfold DataW.weights
      rw [Try.underlying22]
      simp only [List.mem_cons, true_or]
    · rw [show Try.prog.bytesOf 9 = 16 from by kernel_rfl, hl, List.length_map, List.length_range]
      omega

/-- A slice of slices or structs: each one's weight is among the weights of all. -/
theorem weights_in {H : Type} {P : Program} {e : TypeId} {d : DataW H} {n : Nat} : ∀ {l : List (DataW H)}, d ∈ l → n ∈ d.weights P e → n ∈ DataW.weightsAll P e l
  | y :: r, hd, hn => by
    simp only [DataW.weightsAll, List.mem_append]
    rcases List.mem_cons.1 hd with rfl | hd
    · exact .inl hn
    · exact .inr (weights_in hd hn)
  | [], hd, _ => by cases hd

/-- The slice (a, _, c) reads as these messages. -/
def Mls (W : World) (a : Option Addr) (c : Nat) (ts : List Ml) : Prop :=
  ts.length ≤ c ∧ ∀ i (h : i < ts.length), ∃ g o ps cs pi ci, a = some ⟨g, o, none⟩ ∧ W.rangeAt g (o + i * 7) (mlCs ts[i] ps cs pi ci) ∧ SlSl W ps cs ts[i].s ∧ StrSl W pi ci ts[i].i
theorem Mls.keep {W w' : World} {a : Option Addr} {c : Nat} {ts : List Ml} (h : Mls W a c ts) (ht : Touch Nothing W w') : Mls w' a c ts := by
  refine ⟨h.1, fun i hi => ?_⟩
  obtain ⟨g, o, ps, cs, pi, ci, e, h1, h2, h3⟩ := h.2 i hi
  exact ⟨g, o, ps, cs, pi, ci, e, fun j u hu => ht.cell (h1 j u hu) (fun q => q), h2.keep ht, h3.keep0 ht⟩

theorem open_mls {H : Type} {enc : TypeId × Value → H} {W : World} {base base' : Nat} {held : Bool} {v : Value} {d : DataW H} {ps : List MemPlace}
    (hv : Value.okWide Try.prog W .any base' 45 v) (h : DataW.Trod enc Try.prog W base (fun _ => true) held 45 v d ps) :
    ∃ (a : Option Addr) (c : Nat) (ts : List Ml), v = .slice a ts.length c ∧ Mls W a c ts ∧
      (∀ i (h : i < ts.length), (ts[i].s.length = 0 ∨ ∃ n ∈ d.weights Try.prog 45, ts[i].s.length * 32 ≤ n) ∧ (ts[i].i.length = 0 ∨ ∃ n ∈ d.weights Try.prog 45, ts[i].i.length * 16 ≤ n)) ∧
      ((d = .nil ∧ ts = []) ∨ ∃ l sp, d = .slice l sp ∧ l.length = ts.length) := by
  rcases open_recs Try.underlying45 Try.underlying49 (by kernel_rfl) (by kernel_rfl) hv h with ⟨rfl, hd⟩ | ⟨a, len, cap, D, sp, rfl, hlc, hd, hf⟩
  · exact ⟨none, 0, [], rfl, ⟨Nat.le_refl _, fun i hi => by simp at hi⟩, fun i hi => by simp at hi, .inl ⟨hd, rfl⟩⟩
  · have hin : ∀ i, ∃ m : Ml, i < len → ∃ g o ps cs pi ci, a = ⟨g, o, none⟩ ∧ W.rangeAt g (o + i * 7) (mlCs m ps cs pi ci) ∧ SlSl W ps cs m.s ∧ StrSl W pi ci m.i ∧
        (m.s.length = 0 ∨ ∃ n ∈ (D i).weights Try.prog 49, m.s.length * 32 ≤ n) ∧ (m.i.length = 0 ∨ ∃ n ∈ (D i).weights Try.prog 49, m.i.length * 16 ≤ n) := by
      intro i
      by_cases hi : i < len
      · obtain ⟨ys, n, hD, hyl, hj⟩ := hf i hi
        obtain ⟨u0, y0, c0, _, r0⟩ := hj 0 _ rfl
        obtain ⟨u1, y1, c1, _, r1⟩ := hj 1 _ rfl
        obtain ⟨u2, y2, c2, _, r2⟩ := hj 2 _ rfl
        obtain ⟨u3, y3, c3, _, r3⟩ := hj 3 _ rfl
        obtain ⟨u4, y4, c4, _, r4⟩ := hj 4 _ rfl
        obtain ⟨u5, y5, c5, e5, r5⟩ := hj 5 _ rfl
        obtain ⟨u6, y6, c6, e6, r6⟩ := hj 6 _ rfl
        have f0 := (field_int Try.underlying3 c0 r0).1
        have f1 := (field_int Try.underlying3 c1 r1).1
        have f2 := (field_int Try.underlying3 c2 r2).1
        have f3 := (field_str Try.underlying9 c3 r3).1
        have f4 := (field_str Try.underlying9 c4 r4).1
        obtain ⟨ps5, cs5, L5, rfl, s5, w5⟩ := open_sl0 r5
        obtain ⟨ps6, cs6, L6, rfl, s6, w6⟩ := open_tx0 r6
        obtain ⟨b, o', rfl⟩ : ∃ g o, a = ⟨g, o, none⟩ := by
          obtain ⟨ys', n', _, _, hj'⟩ := hf 0 (by omega)
          obtain ⟨u', _, c', _, _⟩ := hj' 0 _ rfl
          exact addr_plain (v := u') (by simpa using c')
        have e0 : ∀ k, (⟨b, o', none⟩ : Addr).add k = ⟨b, o' + k, none⟩ := fun k => by simp [Addr.add]
        obtain ⟨A, hA⟩ : ∃ A : Nat → Addr, A = fun j => (⟨b, o', none⟩ : Addr).add (i * 7 + j) := ⟨_, rfl⟩
        refine ⟨⟨cellI W (A 0), cellI W (A 1), cellI W (A 2), cellS W (A 3), cellS W (A 4), L5, L6⟩, fun _ => ⟨b, o', ps5, cs5, ps6, cs6, rfl, fun j u hu => ?_, s5, s6, ?_, ?_⟩⟩
        · have hA2 : ∀ j, A j = ⟨b, o' + i * 7 + j, none⟩ := fun j => by rw [hA]; simp only [e0]; rw [Nat.add_assoc]
          have q0 : W.cell? (A 0) = some (.int .i64 (cellI W (A 0))) := by rw [hA]; exact f0
          have q1 : W.cell? (A 1) = some (.int .i64 (cellI W (A 1))) := by rw [hA]; exact f1
          have q2 : W.cell? (A 2) = some (.int .i64 (cellI W (A 2))) := by rw [hA]; exact f2
          have q3 : W.cell? (A 3) = some (.string (cellS W (A 3))) := by rw [hA]; exact f3
          have q4 : W.cell? (A 4) = some (.string (cellS W (A 4))) := by rw [hA]; exact f4
          have q5 : W.cell? (A 5) = some (.slice ps5 L5.length cs5) := by rw [hA]; exact c5
          have q6 : W.cell? (A 6) = some (.slice ps6 L6.length cs6) := by rw [hA]; exact c6
          rw [← hA2]
          have hj7 : j < 7 := (List.getElem?_eq_some_iff.1 hu).1
          rcases (by omega : j = 0 ∨ j = 1 ∨ j = 2 ∨ j = 3 ∨ j = 4 ∨ j = 5 ∨ j = 6) with rfl | rfl | rfl | rfl | rfl | rfl | rfl
          · obtain rfl := Option.some.inj hu; exact q0
          · obtain rfl := Option.some.inj hu; exact q1
          · obtain rfl := Option.some.inj hu; exact q2
          · obtain rfl := Option.some.inj hu; exact q3
          · obtain rfl := Option.some.inj hu; exact q4
          · obtain rfl := Option.some.inj hu; exact q5
          · obtain rfl := Option.some.inj hu; exact q6
        · rcases w5 with q | ⟨n, hn, q⟩
          · exact .inl q
          · refine .inr ⟨n, ?_, q⟩
            rw [hD]
            unfold DataW.weights
            rw [Try.underlying49]
            exact DataW.weights_mem_each (j := 5) (t := 47) rfl (by rw [List.getElem?_map, e5]; rfl) n hn
        · rcases w6 with q | ⟨n, hn, q⟩
          · exact .inl q
          · refine .inr ⟨n, ?_, q⟩
            rw [hD]
            unfold DataW.weights
            rw [Try.underlying49]
            exact DataW.weights_mem_each (j := 6) (t := 22) rfl (by rw [List.getElem?_map, e6]; rfl) n hn
      · exact ⟨⟨0, 0, 0, e0, e0, [], []⟩, fun q => absurd q hi⟩
    obtain ⟨M, hM⟩ := Classical.axiomOfChoice hin
    have hl : ((List.range len).map M).length = len := by simp
    have hat : ∀ i (h : i < ((List.range len).map M).length), ((List.range len).map M)[i] = M i := fun i h => by simp
    have hw : ∀ i, i < len → ∀ n ∈ (D i).weights Try.prog 49, n ∈ d.weights Try.prog 45 := by
      intro i hi n hn
      rw [hd]
      unfold DataW.weights
      rw [Try.underlying45]
      simp only [List.mem_cons, List.mem_append]
      right; left
      exact weights_in (d := D i) (List.mem_map.2 ⟨i, List.mem_range.2 hi, rfl⟩) hn
    refine ⟨some a, cap, (List.range len).map M, by rw [hl], ⟨by rw [hl]; exact hlc, fun i hi => ?_⟩, fun i hi => ?_, .inr ⟨_, _, hd, by simp⟩⟩
    · rw [hat i hi]
      obtain ⟨g, o, ps, cs, pi, ci, e, h1, h2, h3, _⟩ := hM i (by simpa using hi)
      exact ⟨g, o, ps, cs, pi, ci, by rw [e], h1, h2, h3⟩
    · rw [hat i hi]
      have hi2 : i < len := by simpa using hi
      obtain ⟨g, o, ps, cs, pi, ci, e, h1, h2, h3, h4, h5⟩ := hM i hi2
      refine ⟨?_, ?_⟩
      · rcases h4 with q | ⟨n, hn, q⟩
        · exact .inl q
        · exact .inr ⟨n, hw i hi2 n hn, q⟩
      · rcases h5 with q | ⟨n, hn, q⟩
        · exact .inl q
        · exact .inr ⟨n, hw i hi2 n hn, q⟩

end Go.Proofs.Ytoegkcjclgmnbaa
