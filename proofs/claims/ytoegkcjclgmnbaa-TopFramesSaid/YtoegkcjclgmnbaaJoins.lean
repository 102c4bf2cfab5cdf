/-
  FrameJoins: the walk of the law, from the contracts.
-/
import Derived.Test.YtoegkcjclgmnbaaMakes
namespace Go.Proofs.Ytoegkcjclgmnbaa
open Go.RowKit
set_option linter.unusedVariables false
set_option linter.unusedSimpArgs false

theorem ofS_cases (l : List ByteArray) : ofS l = (fr l, 0) ∨ ofS l = ([], 2) := by
  unfold ofS; split
  · exact .inl rfl
  · exact .inr rfl

theorem ofS_ok (l : List ByteArray) : (ofS l = (fr l, 0)) ↔ ∀ s ∈ l, s.size ≤ 4096 := by
  constructor
  · intro h s hs
    unfold ofS at h
    split at h
    · rename_i q; exact of_decide_eq_true (List.all_eq_true.1 q s hs)
    · have := congrArg Prod.snd h; simp at this
  · intro h
    exact if_pos (List.all_eq_true.2 fun s hs => decide_eq_true (h s hs))

theorem ofS_app_no {a b : List ByteArray} (h : ofS a = ([], 2) ∨ ofS b = ([], 2)) : ofS (a ++ b) = ([], 2) := by
  rcases ofS_cases (a ++ b) with q | q
  · have q := (ofS_ok _).1 q
    have qa := (ofS_ok a).2 fun s hs => q s (List.mem_append_left _ hs)
    have qb := (ofS_ok b).2 fun s hs => q s (List.mem_append_right _ hs)
    rw [qa, qb] at h
    simp at h
  · exact q

theorem ofS_app_ok {a b : List ByteArray} (ha : ofS a = (fr a, 0)) (hb : ofS b = (fr b, 0)) : ofS (a ++ b) = (fr a ++ fr b, 0) := by
  have : fr (a ++ b) = fr a ++ fr b := by simp [fr, frames]
  rw [← this]
  refine (ofS_ok _).2 fun s hs => ?_
  rcases List.mem_append.1 hs with q | q
  · exact (ofS_ok a).1 ha s q
  · exact (ofS_ok b).1 hb s q

theorem frLen_app (a b : List ByteArray) : frLen (a ++ b) = frLen a + frLen b := by simp [frLen]

/-- A slice of texts that came in, in a later world. -/
theorem StrSl.later {w w2 : World} {a : Option Addr} {c : Nat} {ts : List ByteArray} (h : StrSl w a c ts) (h2 : Below w.heap.size w w2) : StrSl w2 a c ts :=
  ⟨h.1, fun i hi => by obtain ⟨g, o, ha, hc⟩ := h.2 i hi; exact ⟨g, o, ha, (Touch.ofBelow h2).cell hc (by have := World.block_lt_of_cell? w _ hc; simpa using this)⟩⟩

theorem Src.later {w w2 : World} {v : Value} {m : Nat} {news : List Value} (h : Src w v m 1 news) (h2 : Below w.heap.size w w2) : Src w2 v m 1 news := by
  rcases h with h | ⟨ad, c, rfl, hl, hn, h1⟩
  · exact .inl h
  · exact .inr ⟨ad, c, rfl, hl, fun j u hu => (Touch.ofBelow h2).cell (hn j u hu) (by have := World.block_lt_of_cell? w _ (hn j u hu); simpa using this), h1⟩

theorem Below.then {w w1 w2 : World} (h : Below w.heap.size w w1) (k : Below w1.heap.size w1 w2) : Below w.heap.size w w2 :=
  h.trans (k.mono h.size)

theorem of_is {w : World} {A : Option Addr} {c : Nat} {ts : List ByteArray} (hs : StrSl w A c ts) (hsum : frLen ts ≤ 140737488355328) {r : List UInt8} {n : Int} (h : ofS ts = (r, n)) {k : Nat} (hk : ts.length = k) :
    Calls Try.prog 9 #[.slice A k c] w fun e w' => e = .returned (.tuple #[.string ⟨r.toArray⟩, .int .i64 n]) ∧ Below w.heap.size w w' := by
  subst hk
  have := of_any w A c ts hs hsum
  rwa [h] at this

set_option maxRecDepth 100000 in
set_option maxHeartbeats 1600000 in
theorem joins_no (w : World) (A B : Option Addr) (ca cb : Nat) (ta tb : List ByteArray) (ha : StrSl w A ca ta) (hb : StrSl w B cb tb) (sa : Src w (.slice A ta.length ca) ta.length 1 (ta.map Value.string))
    (sb : Src w (.slice B tb.length cb) tb.length 1 (tb.map Value.string)) (hsum : frLen ta + frLen tb ≤ 1099511627776)
    (xa xb : List UInt8) (na nb : Int) (ea : ofS ta = (xa, na)) (eb : ofS tb = (xb, nb)) (hno : na = 2 ∨ na = 0 ∧ nb = 2) (hno2 : ofS ta = ([], 2) ∨ ofS tb = ([], 2)) :
    Calls Try.prog 6 #[.slice A ta.length ca, .slice B tb.length cb] w fun e w' => e = .returned (.bool true) ∧ Below w.heap.size w w' := by
  have la := frLen_lt ta
  have lb := frLen_lt tb
  have hA : ∀ w2, Below w.heap.size w w2 → Calls Try.prog 9 #[.slice A ta.length ca] w2 fun e w' => e = .returned (.tuple #[.string ⟨xa.toArray⟩, .int .i64 na]) ∧ Below w2.heap.size w2 w' := fun w2 h2 => of_is (ha.later h2) (by omega) ea rfl
  have hB : ∀ w2, Below w.heap.size w w2 → Calls Try.prog 9 #[.slice B tb.length cb] w2 fun e w' => e = .returned (.tuple #[.string ⟨xb.toArray⟩, .int .i64 nb]) ∧ Below w2.heap.size w2 w' := fun w2 h2 => of_is (hb.later h2) (by omega) eb rfl
  have hC : ∀ w2 av cv, StrSl w2 av cv (ta ++ tb) → Calls Try.prog 9 #[.slice av (ta.length + tb.length) cv] w2 fun e w' => e = .returned (.tuple #[.string ⟨([] : List UInt8).toArray⟩, .int .i64 2]) ∧ Below w2.heap.size w2 w' :=
    fun w2 av cv h2 => of_is h2 (by rw [frLen_app]; omega) (ofS_app_no hno2) (by simp)
  replace hA := Lib.hid hA
  replace hB := Lib.hid hB
  replace hC := Lib.hid hC
  have hla : ta.length ≤ 1099511627776 := by omega
  have hlb : tb.length ≤ 1099511627776 := by omega
  clear la lb ha hb ea eb hsum hno2
  have sa' := Lib.hid sa
  have sb' := Lib.hid sb
  clear sa sb
  rcases hno with rfl | ⟨rfl, rfl⟩
  all_goals
    go_enter Try.func6, Try.ntmps6
    go_wp2_with (first
      | (go_at_call 11; refine (works_any _).mono ?_; rintro e w1 ⟨rfl, hb1⟩)
      | (go_at_call_of 9 (Value.slice A ta.length ca); refine (hA.out _ hb1).mono ?_; rintro e w2 ⟨rfl, hb2⟩; have hb2' := Below.then hb1 hb2)
      | (go_at_call_of 9 (Value.slice B tb.length cb); refine (hB.out _ hb2').mono ?_; rintro e w3 ⟨rfl, hb3⟩; have hb3' := Below.then hb2' hb3)
      | (at_builtin; refine wpList_app strs rfl (.tmp 27) (.tmp 28) rfl rfl (owns_empty w3 9 1) rfl (sa'.out.later (hb3'.alloc hb3'.size _)) (Nat.zero_add _) (List.nil_append _) (by unfold maxLen; omega) (by omega) ?_; intro v4 w4 ho4 hg4 hv4; have hb4 : Below w.heap.size w w4 := Below.grown (hb3'.alloc hb3'.size _) hg4 (by have := hb3'.size; simp; omega) (fun k hk => by have e1 : w3.heap.size = k := Option.some.inj hk; have := hb3'.size; omega); have hn4 : Hid (∀ k, v4.ownBlock = some k → w.heap.size ≤ k) := (fun k hk => by have := hb3'.size; rcases hv4 with q | q <;> rw [q] at hk; exact (by have e1 : w3.heap.size = k := Option.some.inj hk; omega); exact (by have e1 := Option.some.inj hk; simp at e1; omega)); obtain ⟨av4, cv4, rfl⟩ := owns_slice ho4; clear hg4 hv4)
      | (at_builtin; refine wpList_app strs rfl (.tmp 29) (.tmp 30) rfl rfl ho4 rfl (sb'.out.later hb4) rfl (List.map_append.symm) (by unfold maxLen; omega) (by omega) ?_; intro v5 w5 ho5 hg5 hv5; have hb5 : Below w.heap.size w w5 := Below.grown hb4 hg5 hb4.size (fun k hk => hn4.out k hk); obtain ⟨av5, cv5, rfl⟩ := owns_slice ho5; clear hg5 hv5)
      | (go_at_call 9; refine (hC.out _ _ _ (owns_strSl ho5)).mono ?_; rintro e w6 ⟨rfl, hb6⟩; have hb6' := Below.then hb5 hb6))
    go_ret
    exact ⟨rfl, hb6'⟩

theorem fr_toArray (a b : List UInt8) : (⟨a.toArray⟩ : ByteArray) ++ ⟨b.toArray⟩ = ⟨(a ++ b).toArray⟩ := by
  apply ByteArray.ext
  rw [ByteArray.data_append]
  simp

set_option maxRecDepth 100000 in
set_option maxHeartbeats 3200000 in
theorem joins_ok (w : World) (A B : Option Addr) (ca cb : Nat) (ta tb : List ByteArray) (ha : StrSl w A ca ta) (hb : StrSl w B cb tb) (sa : Src w (.slice A ta.length ca) ta.length 1 (ta.map Value.string))
    (sb : Src w (.slice B tb.length cb) tb.length 1 (tb.map Value.string)) (hsum : frLen ta + frLen tb ≤ 1099511627776)
    (ea : ofS ta = (fr ta, 0)) (eb : ofS tb = (fr tb, 0)) :
    Calls Try.prog 6 #[.slice A ta.length ca, .slice B tb.length cb] w fun e w' => e = .returned (.bool true) ∧ Below w.heap.size w w' := by
  have la := frLen_lt ta
  have lb := frLen_lt tb
  have hA : ∀ w2, Below w.heap.size w w2 → Calls Try.prog 9 #[.slice A ta.length ca] w2 fun e w' => e = .returned (.tuple #[.string ⟨(fr ta).toArray⟩, .int .i64 0]) ∧ Below w2.heap.size w2 w' := fun w2 h2 => of_is (ha.later h2) (by omega) ea rfl
  have hB : ∀ w2, Below w.heap.size w w2 → Calls Try.prog 9 #[.slice B tb.length cb] w2 fun e w' => e = .returned (.tuple #[.string ⟨(fr tb).toArray⟩, .int .i64 0]) ∧ Below w2.heap.size w2 w' := fun w2 h2 => of_is (hb.later h2) (by omega) eb rfl
  obtain ⟨xa, hxa⟩ : ∃ x : ByteArray, x = ⟨(fr ta).toArray⟩ := ⟨_, rfl⟩
  obtain ⟨xb, hxb⟩ : ∃ x : ByteArray, x = ⟨(fr tb).toArray⟩ := ⟨_, rfl⟩
  have hC : ∀ w2 av cv, StrSl w2 av cv (ta ++ tb) → Calls Try.prog 9 #[.slice av (ta.length + tb.length) cv] w2 fun e w' => e = .returned (.tuple #[.string (xa ++ xb), .int .i64 0]) ∧ Below w2.heap.size w2 w' :=
    fun w2 av cv h2 => by
      rw [hxa, hxb, fr_toArray]
      exact of_is h2 (by rw [frLen_app]; omega) (ofS_app_ok ea eb) (by simp)
  rw [← hxa] at hA
  rw [← hxb] at hB
  have sxa : xa.size = frLen ta := by rw [hxa, ← fr_len]; rfl
  have sxb : xb.size = frLen tb := by rw [hxb, ← fr_len]; rfl
  have hx2 : (xa ++ xb).size = frLen (ta ++ tb) := by rw [ByteArray.size_append, frLen_app, sxa, sxb]
  have bxa : xa.size ≤ 1099511627776 := by omega
  have bxb : xb.size ≤ 1099511627776 := by omega
  have hsum2 := Lib.hid (show frLen (ta ++ tb) ≤ 1099511627776 by rw [frLen_app]; exact hsum)
  replace hA := Lib.hid hA
  replace hB := Lib.hid hB
  replace hC := Lib.hid hC
  replace hx2 := Lib.hid hx2
  have hla : ta.length ≤ 1099511627776 := by omega
  have hlb : tb.length ≤ 1099511627776 := by omega
  have sa' := Lib.hid sa
  have sb' := Lib.hid sb
  clear la lb ha hb ea eb hsum hxa hxb sxa sxb sa sb
  go_enter Try.func6, Try.ntmps6
  go_wp2_with (first
    | (go_at_call 11; refine (works_any _).mono ?_; rintro e w1 ⟨rfl, hb1⟩)
    | (go_at_call_of 9 (Value.slice A ta.length ca); refine (hA.out _ hb1).mono ?_; rintro e w2 ⟨rfl, hb2⟩; have hb2' := Below.then hb1 hb2)
    | (go_at_call_of 9 (Value.slice B tb.length cb); refine (hB.out _ hb2').mono ?_; rintro e w3 ⟨rfl, hb3⟩; have hb3' := Below.then hb2' hb3)
    | (at_builtin; refine wpList_app strs rfl (.tmp 27) (.tmp 28) rfl rfl (owns_empty w3 9 1) rfl (sa'.out.later (hb3'.alloc hb3'.size _)) (Nat.zero_add _) (List.nil_append _) (by unfold maxLen; omega) (by omega) ?_; intro v4 w4 ho4 hg4 hv4; have hb4 : Below w.heap.size w w4 := Below.grown (hb3'.alloc hb3'.size _) hg4 (by have := hb3'.size; simp; omega) (fun k hk => by have e1 : w3.heap.size = k := Option.some.inj hk; have := hb3'.size; omega); have hn4 : Hid (∀ k, v4.ownBlock = some k → w.heap.size ≤ k) := (fun k hk => by have := hb3'.size; rcases hv4 with q | q <;> rw [q] at hk; exact (by have e1 : w3.heap.size = k := Option.some.inj hk; omega); exact (by have e1 := Option.some.inj hk; simp at e1; omega)); obtain ⟨av4, cv4, rfl⟩ := owns_slice ho4; clear hg4 hv4)
    | (at_builtin; refine wpList_app strs rfl (.tmp 29) (.tmp 30) rfl rfl ho4 rfl (sb'.out.later hb4) rfl (List.map_append.symm) (by unfold maxLen; omega) (by omega) ?_; intro v5 w5 ho5 hg5 hv5; have hb5 : Below w.heap.size w w5 := Below.grown hb4 hg5 hb4.size (fun k hk => hn4.out k hk); obtain ⟨av5, cv5, rfl⟩ := owns_slice ho5; clear hg5 hv5)
    | (at_builtin; refine wpList_app strs rfl (.tmp 43) (.tmp 44) rfl rfl (owns_empty w6 9 1) rfl (sa'.out.later (hb6'.alloc hb6'.size _)) (Nat.zero_add _) (List.nil_append _) (by unfold maxLen; omega) (by omega) ?_; intro v7 w7 ho7 hg7 hv7; have hb7 : Below w.heap.size w w7 := Below.grown (hb6'.alloc hb6'.size _) hg7 (by have := hb6'.size; simp; omega) (fun k hk => by have e1 : w6.heap.size = k := Option.some.inj hk; have := hb6'.size; omega); have hn7 : Hid (∀ k, v7.ownBlock = some k → w.heap.size ≤ k) := (fun k hk => by have := hb6'.size; rcases hv7 with q | q <;> rw [q] at hk; exact (by have e1 : w6.heap.size = k := Option.some.inj hk; omega); exact (by have e1 := Option.some.inj hk; simp at e1; omega)); obtain ⟨av7, cv7, rfl⟩ := owns_slice ho7; clear hg7 hv7)
    | (at_builtin; refine wpList_app strs rfl (.tmp 45) (.tmp 46) rfl rfl ho7 rfl (sb'.out.later hb7) rfl (List.map_append.symm) (by unfold maxLen; omega) (by omega) ?_; intro v8 w8 ho8 hg8 hv8; have hb8 : Below w.heap.size w w8 := Below.grown hb7 hg8 hb7.size (fun k hk => hn7.out k hk); obtain ⟨av8, cv8, rfl⟩ := owns_slice ho8; have hs8 := Lib.hid (owns_strSl ho8); clear hg8 hv8)
    | (go_at_call 9; refine (hC.out _ _ _ (owns_strSl ho5)).mono ?_; rintro e w6 ⟨rfl, hb6⟩; have hb6' := Below.then hb5 hb6))
  have hT : Hid ((ta ++ tb).length = ta.length + tb.length) := List.length_append
  generalize ta ++ tb = tt at *
  clear hb1 hb2 hb2' hb3 hb3' ho4 hb4 hn4 ho5 hb5 hb6 hb6' ho7 hb7 hn7 ho8 hA hB hC sa' sb'
  go_loop [11, 49] (fun s i => ∃ k : Nat, k ≤ ta.length + tb.length ∧ i = .int .i64 (k : Int) ∧ s = .int .i64 (frLen (tt.take k) : Nat)) (fun _ i => ta.length + tb.length - (intOf i).toNat)
  case atStart => exact ⟨0, Nat.zero_le _, rfl, rfl⟩
  case round =>
    obtain ⟨k, hk, rfl, rfl⟩ := hrel
    by_cases hlt : k < ta.length + tb.length
    · obtain ⟨g, o, rfl, hc⟩ := hs8.out.2 k (by rw [hT.out]; exact hlt)
      obtain ⟨s, hs⟩ : ∃ s, s = tt[k]'(by rw [hT.out]; exact hlt) := ⟨_, rfl⟩
      rw [← hs] at hc
      have hfl := frLen_take tt k (by rw [hT.out]; exact hlt)
      rw [← hs] at hfl
      have hsm := hsum2.out
      have hfin : frLen (tt.take (k + 1)) = frLen (tt.take k) + (4 + s.size) := by
        rw [List.take_succ_eq_append_getElem (by rw [hT.out]; exact hlt), frLen_app, ← hs]
        simp [frLen]; omega
      replace hfin := Lib.hid hfin
      have hs' := Lib.hid hs
      clear hs
      generalize hF : frLen (tt.take k) = F at *
      have hF' := Lib.hid hF
      clear hF
      have b1 : (F : Int) + (4 + (s.size : Int)) ≤ 1099511627776 := by omega
      clear hfl hsm
      go_wp2
      go_round
      case rel => exact ⟨k + 1, hlt, by go_num, by rw [hfin.out]; go_num⟩
      case measure => simp [intOf]; omega
    · obtain rfl : k = ta.length + tb.length := by omega
      have e1 : frLen (tt.take (ta.length + tb.length)) = (xa ++ xb).size := by
        rw [hx2.out, List.take_of_length_le (by rw [hT.out]; exact Nat.le_refl _)]
      rw [e1]
      have hx2' := hx2
      clear hx2 e1
      go_wp2
      go_ret
      exact ⟨by simp, hb8⟩

theorem FrameJoins_walk (W : World) (v0 : Value) (t0 : List ByteArray) (h0 : StrA W v0 t0) (z0 : ∀ s ∈ t0, s.size ≤ 9223372036854775807) (l0 : t0.length * 16 ≤ 140737488351232) (b0 : strBulk t0 ≤ 1048576)
    (v1 : Value) (t1 : List ByteArray) (h1 : StrA W v1 t1) (z1 : ∀ s ∈ t1, s.size ≤ 9223372036854775807) (l1 : t1.length * 16 ≤ 140737488351232) (b1 : strBulk t1 ≤ 1048576) :
    Calls Try.prog 6 #[v0, v1] W fun e w' => e = .returned (.bool true) ∧ Below W.heap.size W w' := by
  have q0 := frLen_bulk t0
  have q1 := frLen_bulk t1
  obtain ⟨A, ca, rfl, sa, ra⟩ := h0.sl
  obtain ⟨B, cb, rfl, sb, rb⟩ := h1.sl
  rcases ofS_cases t0 with ea | ea
  · rcases ofS_cases t1 with eb | eb
    · exact joins_ok W A B ca cb t0 t1 sa sb ra rb (by omega) ea eb
    · exact joins_no W A B ca cb t0 t1 sa sb ra rb (by omega) _ _ _ _ ea eb (.inr ⟨rfl, rfl⟩) (.inr eb)
  · rcases ofS_cases t1 with eb | eb
    · exact joins_no W A B ca cb t0 t1 sa sb ra rb (by omega) _ _ _ _ ea eb (.inl rfl) (.inl ea)
    · exact joins_no W A B ca cb t0 t1 sa sb ra rb (by omega) _ _ _ _ ea eb (.inl rfl) (.inl ea)

end Go.Proofs.Ytoegkcjclgmnbaa
