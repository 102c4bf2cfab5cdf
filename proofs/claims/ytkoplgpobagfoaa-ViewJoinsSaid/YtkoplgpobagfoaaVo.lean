/-
  Layer 27: a slice of views that came in, as the walks want it.
-/
import Derived.Test.YtkoplgpobagfoaaFrs
import Derived.Test.YtkoplgpobagfoaaJn
namespace Go.Proofs.Ytkoplgpobagfoaa
open Go.ChangeShapes Go.WideShapes Go.ChangeAt Go.RowKit Go.Deep
set_option linter.unusedVariables false

/-- A slice of structs in a cell. -/
theorem open_recs0 {H : Type} {enc : TypeId × Value → H} {P : Program} {W : World} {base : Nat} {held : Bool} {t e : TypeId} {fs : Array Field} {fuel : Nat} {u : Value} {x : DataW H × List MemPlace} (ht : P.underlying t = some (.slice e)) (he : P.underlying e = some (.struct fs))
    (hone : oneCellFields P fs = true) (hC : P.cellsOf e = fs.size) (hf : DataW.trod enc P W base (fun _ => true) held fuel t [u] = some x) :
    (u = .slice none 0 0 ∧ x.1 = .nil) ∨
    ∃ (a : Addr) (len cap : Nat) (D : Nat → DataW H) (sp : List (DataW H)), u = .slice (some a) len cap ∧ len ≤ cap ∧ x.1 = .slice ((List.range len).map D) sp ∧
      ∀ i, i < len → ∃ (ys : List (DataW H × List MemPlace)) (n : Nat), D i = .agg (ys.map (·.1)) ∧ ys.length = fs.size ∧
        ∀ (j : Nat) (f : Field), fs[j]? = some f → ∃ (u : Value) (y : DataW H × List MemPlace), W.cell? (a.add (i * fs.size + j)) = some u ∧ ys[j]? = some y ∧ DataW.trod enc P W base (fun _ => true) held n f.type [u] = some y := by
  rcases Go.Deep.open_slice ht hf with ⟨hcs, hx⟩ | ⟨a, len, cap, m, n, D, Pl, hcs, _, hlc, _, hm, hx, hel⟩
  · left
    simp only [List.cons.injEq, and_true] at hcs
    exact ⟨hcs, by rw [hx]⟩
  · right
    simp only [List.cons.injEq, and_true] at hcs
    simp only [if_true] at hm
    refine ⟨a, _, _, D, _, hcs, hlc, by rw [hx], fun i hi => ?_⟩
    obtain ⟨cs, hc, hd⟩ := hel i (by omega)
    rw [hC] at hc
    obtain ⟨ys, k, _, hy, hcl, hyl, hfs⟩ := DataW.trod_struct he hd
    simp only [Prod.mk.injEq] at hy
    obtain ⟨_, hlen, hat⟩ := World.cells?_some hc
    refine ⟨ys, k, hy.1, hyl, fun j f hj => ?_⟩
    obtain ⟨ho, hk⟩ := hone_of hone j f hj
    have hjs : j < fs.size := (Array.getElem?_eq_some_iff.1 hj).1
    have hjc : j < cs.length := by omega
    have hjy : j < ys.length := by omega
    have hr := hfs j f hj
    rw [ho, hk, take_one cs hjc, List.getElem?_eq_getElem hjy] at hr
    refine ⟨cs[j], ys[j], ?_, List.getElem?_eq_getElem hjy, hr⟩
    have := hat j hjs
    rw [Go.Deep.add_add, List.getElem?_eq_getElem hjc] at this
    exact this

theorem open_frs0 {H : Type} {enc : TypeId × Value → H} {W : World} {base : Nat} {held : Bool} {fuel : Nat} {v : Value} {x : DataW H × List MemPlace}
    (h : DataW.trod enc Try.prog W base (fun _ => true) held fuel 22 [v] = some x) :
    ∃ (ls : List Fr), FrA W v ls ∧ ((x.1 = .nil ∧ ls = []) ∨ ∃ l sp, x.1 = .slice l sp ∧ l.length = ls.length) := by
  rcases open_recs0 Try.underlying22 Try.underlying50 (by kernel_rfl) (by kernel_rfl) h with ⟨rfl, hx⟩ | ⟨a, len, cap, D, sp, rfl, hlc, hx, hf⟩
  · exact ⟨[], .inl ⟨rfl, rfl⟩, .inl ⟨hx, rfl⟩⟩
  · obtain ⟨fr, hfr⟩ : ∃ fr : Nat → Fr, fr = fun i => ⟨cellI W (a.add (i * 4)), cellI W (a.add (i * 4 + 1)), cellI W (a.add (i * 4 + 2)), cellI W (a.add (i * 4 + 3))⟩ := ⟨_, rfl⟩
    have hr : ∀ i, i < len → ∃ g o, a = ⟨g, o, none⟩ ∧ W.rangeAt g (o + i * 4) (frCs (fr i)) ∧ (fr i).inR := by
      intro i hi
      obtain ⟨ys, n, _, _, hj⟩ := hf i hi
      obtain ⟨u0, y0, c0, _, r0⟩ := hj 0 _ rfl
      obtain ⟨u1, y1, c1, _, r1⟩ := hj 1 _ rfl
      obtain ⟨u2, y2, c2, _, r2⟩ := hj 2 _ rfl
      obtain ⟨u3, y3, c3, _, r3⟩ := hj 3 _ rfl
      have f0 := field_int Try.underlying3 c0 r0
      have f1 := field_int Try.underlying3 c1 r1
      have f2 := field_int Try.underlying3 c2 r2
      have f3 := field_int Try.underlying3 c3 r3
      obtain ⟨ys', n', _, _, hj'⟩ := hf 0 (by omega)
      obtain ⟨u', _, c', _, _⟩ := hj' 0 _ rfl
      obtain ⟨b, o', rfl⟩ : ∃ g o, a = ⟨g, o, none⟩ := addr_plain (v := u') (by simpa using c')
      have e0 : ∀ k, (⟨b, o', none⟩ : Addr).add k = ⟨b, o' + k, none⟩ := fun k => by simp [Addr.add]
      have q0 : (W.cell? ((⟨b, o', none⟩ : Addr).add (i * 4)) = some (.int .i64 (cellI W ((⟨b, o', none⟩ : Addr).add (i * 4))))) ∧ (-9223372036854775808 ≤ cellI W ((⟨b, o', none⟩ : Addr).add (i * 4)) ∧ cellI W ((⟨b, o', none⟩ : Addr).add (i * 4)) ≤ 9223372036854775807) := f0
      have q1 : (W.cell? ((⟨b, o', none⟩ : Addr).add (i * 4 + 1)) = some (.int .i64 (cellI W ((⟨b, o', none⟩ : Addr).add (i * 4 + 1))))) ∧ (-9223372036854775808 ≤ cellI W ((⟨b, o', none⟩ : Addr).add (i * 4 + 1)) ∧ cellI W ((⟨b, o', none⟩ : Addr).add (i * 4 + 1)) ≤ 9223372036854775807) := f1
      have q2 : (W.cell? ((⟨b, o', none⟩ : Addr).add (i * 4 + 2)) = some (.int .i64 (cellI W ((⟨b, o', none⟩ : Addr).add (i * 4 + 2))))) ∧ (-9223372036854775808 ≤ cellI W ((⟨b, o', none⟩ : Addr).add (i * 4 + 2)) ∧ cellI W ((⟨b, o', none⟩ : Addr).add (i * 4 + 2)) ≤ 9223372036854775807) := f2
      have q3 : (W.cell? ((⟨b, o', none⟩ : Addr).add (i * 4 + 3)) = some (.int .i64 (cellI W ((⟨b, o', none⟩ : Addr).add (i * 4 + 3))))) ∧ (-9223372036854775808 ≤ cellI W ((⟨b, o', none⟩ : Addr).add (i * 4 + 3)) ∧ cellI W ((⟨b, o', none⟩ : Addr).add (i * 4 + 3)) ≤ 9223372036854775807) := f3
      refine ⟨b, o', rfl, fun j u hu => ?_, ?_⟩
      · rw [hfr] at hu
        rw [e0] at q0 q1 q2 q3
        have hj4 : j < 4 := (List.getElem?_eq_some_iff.1 hu).1
        rcases (by omega : j = 0 ∨ j = 1 ∨ j = 2 ∨ j = 3) with rfl | rfl | rfl | rfl
        · obtain rfl := Option.some.inj hu; simp only [e0]; exact q0.1
        · obtain rfl := Option.some.inj hu; simp only [e0]; exact q1.1
        · obtain rfl := Option.some.inj hu; simp only [e0]; exact q2.1
        · obtain rfl := Option.some.inj hu; simp only [e0]; exact q3.1
      · rw [hfr]
        exact ⟨q0.2.1, q0.2.2, q1.2.1, q1.2.2, q2.2.1, q2.2.2, q3.2.1, q3.2.2⟩
    have hl : ((List.range len).map fr).length = len := by simp
    refine ⟨(List.range len).map fr, .inr ⟨a, cap, by rw [hl], by rw [hl]; exact hlc, fun i hi => ?_⟩, .inr ⟨_, _, hx, by simp⟩⟩
    have hi2 : i < len := by simpa using hi
    obtain ⟨g, o, e, h1, _⟩ := hr i hi2
    exact ⟨g, o, by rw [e], by simpa using h1⟩

/-- A slice of slices: each one's weight is among the weights of all. -/
theorem weights_in {H : Type} {P : Program} {e : TypeId} {d : DataW H} {n : Nat} : ∀ {l : List (DataW H)}, d ∈ l → n ∈ d.weights P e → n ∈ DataW.weightsAll P e l
  | y :: r, hd, hn => by
    simp only [DataW.weightsAll, List.mem_append]
    rcases List.mem_cons.1 hd with rfl | hd
    · exact .inl hn
    · exact .inr (weights_in hd hn)
  | [], hd, _ => by cases hd

theorem open_vws {H : Type} {enc : TypeId × Value → H} {W : World} {base base' : Nat} {held : Bool} {v : Value} {d : DataW H} {ps : List MemPlace}
    (hv : Value.okWide Try.prog W .any base' 54 v) (h : DataW.Trod enc Try.prog W base (fun _ => true) held 54 v d ps) :
    ∃ (a : Option Addr) (c : Nat) (ts : List (Value × List Fr)), v = .slice a ts.length c ∧ Vws W a c ts ∧
      (∀ i (h : i < ts.length), ts[i].2.length = 0 ∨ ∃ n ∈ d.weights Try.prog 54, ts[i].2.length * 32 ≤ n) ∧
      ((d = .nil ∧ ts = []) ∨ ∃ l sp, d = .slice l sp ∧ l.length = ts.length) := by
  obtain ⟨a0, len0, cap0, rfl⟩ := okWide_slice Try.underlying54 hv
  obtain ⟨fuel, hf⟩ := h
  rcases Go.Deep.open_slice1 Try.underlying54 (by kernel_rfl) hf with ⟨hcs, hx⟩ | ⟨a, len, cap, m, n, V, D, Pl, hcs, _, hlc, _, hm, hx, hel⟩
  · simp [Value.cells] at hcs
    obtain ⟨rfl, rfl, rfl⟩ := hcs
    simp only [Prod.mk.injEq] at hx
    exact ⟨none, 0, [], rfl, ⟨Nat.le_refl _, fun i hi => by simp at hi⟩, fun i hi => by simp at hi, .inl ⟨hx.1, rfl⟩⟩
  · simp [Value.cells] at hcs
    obtain ⟨rfl, rfl, rfl⟩ := hcs
    simp only [Prod.mk.injEq] at hx
    simp only [if_true] at hm
    obtain ⟨hd, _⟩ := hx
    have hin : ∀ i, ∃ ls : List Fr, i < len0 → FrA W (V i) ls ∧ ((D i = .nil ∧ ls = []) ∨ ∃ l sp, D i = .slice l sp ∧ l.length = ls.length) := by
      intro i
      by_cases hi : i < len0
      · obtain ⟨ls, h1, h2⟩ := open_frs0 (hel i (by omega)).2
        exact ⟨ls, fun _ => ⟨h1, h2⟩⟩
      · exact ⟨[], fun q => absurd q hi⟩
    obtain ⟨L, hL⟩ := Classical.axiomOfChoice hin
    have hl : ((List.range len0).map fun i => (V i, L i)).length = len0 := by simp
    have hat : ∀ i (h : i < ((List.range len0).map fun i => (V i, L i)).length), ((List.range len0).map fun i => (V i, L i))[i] = (V i, L i) := fun i h => by simp
    refine ⟨some a, cap0, (List.range len0).map fun i => (V i, L i), by rw [hl], ⟨by rw [hl]; exact hlc, fun i hi => ?_⟩, fun i hi => ?_, .inr ⟨_, _, hd, by simp⟩⟩
    · rw [hat i hi]
      have hi2 : i < len0 := by simpa using hi
      refine ⟨?_, (hL i hi2).1⟩
      have hc := (hel i (by omega)).1
      have hc0 := (hel 0 (by omega)).1
      obtain ⟨b, o', rfl⟩ : ∃ g o, a = ⟨g, o, none⟩ := addr_plain (v := V 0) (by simpa using hc0)
      exact ⟨b, o', rfl, by rw [Addr.add_mid] at hc; exact hc⟩
    · rw [hat i hi]
      have hi2 : i < len0 := by simpa using hi
      simp only []
      rcases (hL i hi2).2 with ⟨_, h0⟩ | ⟨l, sp, h1, h2⟩
      · left; rw [h0]; rfl
      · right
        refine ⟨(l.length + sp.length) * Try.prog.bytesOf 50, ?_, ?_⟩
        · rw [hd]
          unfold DataW.weights
          rw [Try.underlying54]
          simp only [List.mem_cons, List.mem_append]
          right; left
          refine weights_in (d := D i) (List.mem_map.2 ⟨i, List.mem_range.2 hi2, rfl⟩) ?_
          rw [h1]
          unfold DataW.weights
          rw [Try.underlying22]
          simp only [List.mem_cons, true_or]
        · rw [show Try.prog.bytesOf 50 = 32 from by kernel_rfl, h2]
          omega

end Go.Proofs.Ytkoplgpobagfoaa
