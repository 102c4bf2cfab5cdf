/-
  Layer 11 (mail): which ids and slots may be, walked.
-/
import Derived.Test.YtoegkcjclgmnbaaMa
import Derived.Laws.StructEq
namespace Go.Proofs.Ytoegkcjclgmnbaa
open Go.RowKit
set_option linter.unusedVariables false
set_option linter.unusedSimpArgs false

/-- The slice (p, _, c) reads as these slots. -/
def SlSl (w : World) (p : Option Addr) (c : Nat) (L : List (ByteArray × ByteArray)) : Prop :=
  L.length ≤ c ∧ ∀ i (h : i < L.length), ∃ g o, p = some ⟨g, o, none⟩ ∧ w.cell? ⟨g, o + i * 2, none⟩ = some (.string L[i].1) ∧ w.cell? ⟨g, o + i * 2 + 1, none⟩ = some (.string L[i].2)
theorem SlSl.keep {w w' : World} {p : Option Addr} {c : Nat} {L : List (ByteArray × ByteArray)} (h : SlSl w p c L) (ht : Touch Nothing w w') : SlSl w' p c L :=
  ⟨h.1, fun i hi => by obtain ⟨g, o, e, h1, h2⟩ := h.2 i hi; exact ⟨g, o, e, ht.cell h1 (fun q => q), ht.cell h2 (fun q => q)⟩⟩

theorem StrSl.keep0 {w w' : World} {p : Option Addr} {c : Nat} {L : List ByteArray} (h : StrSl w p c L) (ht : Touch Nothing w w') : StrSl w' p c L := h.keep ht (fun _ _ q => q)

/-! ### A text that is no id -/

theorem notId_any (w : World) (s : ByteArray) : Calls Try.prog 51 #[.string s] w fun r w' => r = .returned (.bool (!isId s)) ∧ w' = w := by
  obtain ⟨b, hb⟩ : ∃ b, b = isId s := ⟨_, rfl⟩
  have hI := Lib.hid (fun w => isId_any w s b hb)
  rw [← hb]
  clear hb
  go_enter Try.func51, Try.ntmps51
  go_wp2_with (first | (go_at_call 52; refine (hI.out _).mono ?_; rintro r w2 ⟨rfl, rfl⟩))
  go_ret
  exact ⟨rfl, rfl⟩

theorem cf51 (args : Array Value) (w : World) : (callFunc 51 args).run Try.prog w = .ok (.enter 51 args) w := by kernel_rfl
theorem cf49 (args : Array Value) (w : World) : (callFunc 49 args).run Try.prog w = .ok (.enter 49 args) w := by kernel_rfl

set_option maxRecDepth 100000 in
theorem indexId_any (w : World) (p : Option Addr) (c : Nat) (L : List ByteArray) (h : StrSl w p c L) (hl : L.length ≤ 4611686018427387904) :
    Calls Try.prog 58 #[.slice p L.length c, .func (.func 51) #[] #[]] w fun r w' => (∃ z : Int, r = .returned (.int .i64 z) ∧ decide (0 ≤ z) = L.any (fun s => !isId s)) ∧ w' = w := by
  obtain ⟨n, hn⟩ : ∃ n, n = L.length := ⟨_, rfl⟩
  obtain ⟨bb, hbb⟩ : ∃ b, b = L.any (fun s => !isId s) := ⟨_, rfl⟩
  rw [← hn] at hl ⊢
  rw [← hbb]
  replace h := Lib.hid h
  replace hn := Lib.hid hn
  replace hbb := Lib.hid hbb
  go_enter Try.func58, Try.ntmps58
  go_wp2
  go_loopw [8] (fun iv wr => ∃ i : Nat, i ≤ n ∧ iv = .int .i64 (i : Int) ∧ Hid (∀ j (hj : j < L.length), j < i → isId L[j] = true) ∧ wr = w) (fun iv _ => n - (intOf iv).toNat)
  case atStart => exact ⟨0, Nat.zero_le _, rfl, Lib.hid fun j _ q => by omega, rfl⟩
  case round =>
    obtain ⟨i, hi, rfl, hI, ew⟩ := hrel
    by_cases hlt : i < n
    · have hiL : i < L.length := by rw [← hn.out]; exact hlt
      obtain ⟨g, o, rfl, hc⟩ := h.out.2 i hiL
      obtain ⟨s, hs⟩ : ∃ s, s = L[i] := ⟨_, rfl⟩
      rw [← hs] at hc
      rw [← ew] at hc
      have hC := notId_any wr s
      obtain ⟨b, hb⟩ : ∃ b, b = !isId s := ⟨_, rfl⟩
      rw [← hb] at hC
      have i0 : (0 : Int) ≤ (i : Int) := by omega
      have i1 : (i : Int) < (n : Int) := by omega
      have i2 : IntKind.i64.wrap ((i : Int) + 1) = (i : Int) + 1 := by rw [IntKind.wrap_i64]; omega
      replace hC := Lib.hid hC
      replace hb := Lib.hid hb
      replace hs := Lib.hid hs
      replace ew := Lib.hid ew
      cases b
      · have hI2 : Hid (∀ j (hj : j < L.length), j < i + 1 → isId L[j] = true) := Lib.hid fun j hj q => by
          by_cases e : j = i
          · subst e
            have := hb.out
            rw [hs.out] at this
            simpa using this.symm
          · exact hI.out j hj (by omega)
        clear hI hb
        go_wp2_with (first | (go_at_call 51; refine hC.out.mono ?_; rintro r w2 ⟨rfl, rfl⟩))
        exact ⟨⟨i + 1, by omega, by simp, hI2, ew.out⟩, by simp [intOf]; omega⟩
      · have hany : L.any (fun s => !isId s) = true := List.any_eq_true.2 ⟨s, by rw [hs.out]; exact List.getElem_mem _, hb.out.symm⟩
        obtain rfl : bb = true := by rw [hbb.out]; exact hany
        clear hI hb hany
        go_wp2_with (first | (go_at_call 51; refine hC.out.mono ?_; rintro r w2 ⟨rfl, rfl⟩))
        go_ret
        exact ⟨⟨_, rfl, decide_eq_true (by omega)⟩, ew.out⟩
    · have hany : L.any (fun s => !isId s) = false := by
        rw [List.any_eq_false]
        intro x hx
        obtain ⟨j, hj, rfl⟩ := List.mem_iff_getElem.1 hx
        rw [hI.out j hj (by rw [hn.out] at hlt; omega)]
        decide
      obtain rfl : bb = false := by rw [hbb.out]; exact hany
      have i1 : ¬ (i : Int) < (n : Int) := by omega
      replace ew := Lib.hid ew
      clear hI hany
      go_wp2
      go_ret
      exact ⟨⟨_, rfl, by decide⟩, ew.out⟩

theorem stranger_any (w : World) (p : Option Addr) (c : Nat) (L : List ByteArray) (h : StrSl w p c L) (hl : L.length ≤ 4611686018427387904) :
    Calls Try.prog 43 #[.slice p L.length c] w fun r w' => r = .returned (.bool (L.any (fun s => !isId s))) ∧ w' = w := by
  have hI := indexId_any w p c L h hl
  obtain ⟨b, hb⟩ : ∃ b, b = L.any (fun s => !isId s) := ⟨_, rfl⟩
  rw [← hb] at hI ⊢
  obtain ⟨n, hn⟩ : ∃ n, n = L.length := ⟨_, rfl⟩
  rw [← hn] at hI ⊢
  have hC : Calls Try.prog 50 #[.slice p n c, .func (.func 51) #[] #[]] w fun r w' => r = .returned (.bool b) ∧ w' = w := by
    replace hI := Lib.hid hI
    clear hb hn h
    go_enter Try.func50, Try.ntmps50
    go_wp2_with (first | (go_at_call 58; refine hI.out.mono ?_; rintro r w2 ⟨⟨z, rfl, hz⟩, rfl⟩))
    go_ret
    exact ⟨by rw [← hz]; rfl, rfl⟩
  replace hC := Lib.hid hC
  clear hI hb hn h
  go_enter Try.func43, Try.ntmps43
  go_wp2_with (first | (go_at_call 50; refine hC.out.mono ?_; rintro r w2 ⟨rfl, rfl⟩))
  go_ret
  exact ⟨rfl, rfl⟩

/-! ### Slots -/

theorem hu74 : Try.prog.underlying 74 = some (.struct (Try.prog.fieldsOf 74)) := by kernel_rfl
theorem hs74 : Try.prog.stoodInHeld 74 = false := by kernel_rfl
theorem hg74 : Try.prog.eqGuardType Try.prog.depth 74 = false := by kernel_rfl
theorem hf74 : (Try.prog.fieldsOf 74).toList = [{ name := "Id", type := 9, offset := 0, embedded := false, tag := "", pkgPath := "", byteOffset := 0 },
        { name := "Text", type := 9, offset := 1, embedded := false, tag := "", pkgPath := "", byteOffset := 16 }] := by kernel_rfl

theorem bytes_eq (a b : ByteArray) : (a.toList == b.toList) = decide (a = b) := by
  rw [ByteArray.toList_eq, ByteArray.toList_eq]
  by_cases h : a = b
  · subst h; simp
  · rw [decide_eq_false h]
    refine Bool.eq_false_iff.2 fun q => h ?_
    exact ByteArray.ext (Array.toList_inj.1 (eq_of_beq q))

theorem run_eq74 (w : World) (x y : ByteArray × ByteArray) : (Op.equalIn 10000 74 (slV x) (slV y)).run Try.prog w = .ok (decide (x = y)) w := by
  unfold slV
  rw [run_equalIn_agg w 9999 74 _ _ hu74 hs74, hf74]
  obtain ⟨xa, xf⟩ := x
  obtain ⟨ya, yf⟩ := y
  have p0 : ∀ (v : World) (a b : ByteArray), (part 9 #[Value.string a, .string b] 0).run Try.prog v = .ok (.string a) v := by intro v a b; kernel_rfl
  have p1 : ∀ (v : World) (a b : ByteArray), (part 9 #[Value.string a, .string b] 1).run Try.prog v = .ok (.string b) v := by intro v a b; kernel_rfl
  have q : ∀ (v : World) (a b : ByteArray), (Op.equalIn 9999 9 (.string a) (.string b)).run Try.prog v = .ok (decide (a = b)) v := fun v a b => by
    rw [run_equalIn_string v 9998 9 a b Try.underlying9, bytes_eq]
  simp only [Op.eqFields]
  rw [if_pos (by decide), if_pos (by decide)]
  simp only [Sem.run_bind, p0, p1, q, Result.andThen_ok, Sem.run_ite, Sem.run_pure]
  by_cases h0 : xa = ya <;> by_cases h1 : xf = yf <;> simp [h0, h1]

theorem run_ne74 (w : World) (x y : ByteArray × ByteArray) : (binOp .neq 74 (slV x) (slV y)).run Try.prog w = .ok (.bool (!decide (x = y))) w := by
  have := run_neq_struct (P := Try.prog) w 74 #[.string x.1, .string x.2] #[.string y.1, .string y.2]
  unfold slV
  rw [this]
  have h := run_eq74 w x y
  unfold slV at h
  rw [h]
  rfl
theorem run_g74 (w : World) (op : BinOp) (a b : Operand) (x y : ByteArray × ByteArray) : (eqGuard op 74 a b (slV x) (slV y)).run Try.prog w = .ok () w := run_eqGuard_agg w op 74 a b _ _ hg74

def slot0 : ByteArray × ByteArray := (⟨#[]⟩, ⟨#[]⟩)

theorem full_any (w : World) (x : ByteArray × ByteArray) : Calls Try.prog 49 #[slV x] w fun r w' => r = .returned (.bool (!decide (x = slot0))) ∧ Touch Nothing w w' := by
  obtain ⟨b, hb⟩ : ∃ b, b = !decide (x = slot0) := ⟨_, rfl⟩
  have kG := fun w => run_g74 w .neq (.tmp 3) (.tmp 4) x slot0
  have kN := fun w => run_ne74 w x slot0
  rw [← hb] at kN ⊢
  obtain ⟨xa, xf⟩ := x
  unfold slV slot0 at kG kN
  simp only [] at kG kN
  unfold slV
  simp only []
  have ta := Lib.hid ((Touch.refl Nothing w).alloc (.cells #[.string xa, .string xf] 74))
  clear hb
  go_enter Try.func49, Try.ntmps49
  go_wp2
  go_ret
  exact ⟨rfl, ta.out⟩

set_option maxRecDepth 100000 in
theorem indexSl_any (w : World) (p : Option Addr) (c : Nat) (L : List (ByteArray × ByteArray)) (h : SlSl w p c L) (hl : L.length ≤ 4611686018427387904) :
    Calls Try.prog 57 #[.slice p L.length c, .func (.func 49) #[] #[]] w fun r w' => (∃ z : Int, r = .returned (.int .i64 z) ∧ decide (0 ≤ z) = L.any (fun s => !decide (s = slot0))) ∧ Touch Nothing w w' := by
  obtain ⟨n, hn⟩ : ∃ n, n = L.length := ⟨_, rfl⟩
  obtain ⟨bb, hbb⟩ : ∃ b, b = L.any (fun s => !decide (s = slot0)) := ⟨_, rfl⟩
  rw [← hn] at hl ⊢
  rw [← hbb]
  replace h := Lib.hid h
  replace hn := Lib.hid hn
  replace hbb := Lib.hid hbb
  go_enter Try.func57, Try.ntmps57
  go_wp2
  go_loopw [8] (fun iv wr => ∃ i : Nat, i ≤ n ∧ iv = .int .i64 (i : Int) ∧ Hid (∀ j (hj : j < L.length), j < i → L[j] = slot0) ∧ Touch Nothing w wr) (fun iv _ => n - (intOf iv).toNat)
  case atStart => exact ⟨0, Nat.zero_le _, rfl, Lib.hid fun j _ q => by omega, Touch.refl _ _⟩
  case round =>
    obtain ⟨i, hi, rfl, hI, ht⟩ := hrel
    by_cases hlt : i < n
    · have hiL : i < L.length := by rw [← hn.out]; exact hlt
      obtain ⟨g, o, rfl, hc0, hc1⟩ := (h.out.keep ht).2 i hiL
      obtain ⟨s, hs⟩ : ∃ s, s = L[i] := ⟨_, rfl⟩
      rw [← hs] at hc0 hc1
      have hC := full_any wr s
      obtain ⟨b, hb⟩ : ∃ b, b = !decide (s = slot0) := ⟨_, rfl⟩
      rw [← hb] at hC
      have i0 : (0 : Int) ≤ (i : Int) := by omega
      have i1 : (i : Int) < (n : Int) := by omega
      have i2 : IntKind.i64.wrap ((i : Int) + 1) = (i : Int) + 1 := by rw [IntKind.wrap_i64]; omega
      replace hb := Lib.hid hb
      replace hs := Lib.hid hs
      obtain ⟨sa, sf⟩ := s
      unfold slV at hC
      simp only [] at hc0 hc1 hC
      replace hC := Lib.hid hC
      cases b
      · have hI2 : Hid (∀ j (hj : j < L.length), j < i + 1 → L[j] = slot0) := Lib.hid fun j hj q => by
          by_cases e : j = i
          · subst e
            have := hb.out
            rw [← hs.out]
            simpa using this.symm
          · exact hI.out j hj (by omega)
        clear hI hb
        go_wp2_with (first | (go_at_call 49; refine hC.out.mono ?_; rintro r w2 ⟨rfl, t2⟩; replace t2 := ht.trans' t2))
        exact ⟨⟨i + 1, by omega, by simp, hI2, t2⟩, by simp [intOf]; omega⟩
      · have hany : L.any (fun s => !decide (s = slot0)) = true := List.any_eq_true.2 ⟨(sa, sf), by rw [hs.out]; exact List.getElem_mem _, hb.out.symm⟩
        obtain rfl : bb = true := by rw [hbb.out]; exact hany
        clear hI hb hany
        go_wp2_with (first | (go_at_call 49; refine hC.out.mono ?_; rintro r w2 ⟨rfl, t2⟩; replace t2 := ht.trans' t2))
        go_ret
        exact ⟨⟨_, rfl, decide_eq_true (by omega)⟩, t2⟩
    · have hany : L.any (fun s => !decide (s = slot0)) = false := by
        rw [List.any_eq_false]
        intro x hx
        obtain ⟨j, hj, rfl⟩ := List.mem_iff_getElem.1 hx
        rw [hI.out j hj (by rw [hn.out] at hlt; omega)]
        simp
      obtain rfl : bb = false := by rw [hbb.out]; exact hany
      have i1 : ¬ (i : Int) < (n : Int) := by omega
      clear hI hany
      go_wp2
      go_ret
      exact ⟨⟨_, rfl, by decide⟩, ht⟩

theorem anySl_any (w : World) (p : Option Addr) (c : Nat) (L : List (ByteArray × ByteArray)) (h : SlSl w p c L) (hl : L.length ≤ 4611686018427387904) :
    Calls Try.prog 48 #[.slice p L.length c, .func (.func 49) #[] #[]] w fun r w' => r = .returned (.bool (L.any (fun s => !decide (s = slot0)))) ∧ Touch Nothing w w' := by
  have hI := indexSl_any w p c L h hl
  obtain ⟨b, hb⟩ : ∃ b, b = L.any (fun s => !decide (s = slot0)) := ⟨_, rfl⟩
  rw [← hb] at hI ⊢
  obtain ⟨n, hn⟩ : ∃ n, n = L.length := ⟨_, rfl⟩
  rw [← hn] at hI ⊢
  replace hI := Lib.hid hI
  clear hb hn h
  go_enter Try.func48, Try.ntmps48
  go_wp2_with (first | (go_at_call 57; refine hI.out.mono ?_; rintro r w2 ⟨⟨z, rfl, hz⟩, t2⟩))
  go_ret
  exact ⟨by rw [← hz]; rfl, t2⟩

/-- How many entries stand ahead. -/
def lead : List (ByteArray × ByteArray) → Nat
  | [] => 0
  | x :: r => if entry x = true then lead r + 1 else 0
theorem lead_le : ∀ L, lead L ≤ L.length
  | [] => Nat.le_refl _
  | x :: r => by unfold lead; split; · have := lead_le r; simp; omega
                 · simp
theorem lead_lt : ∀ (L : List (ByteArray × ByteArray)) (i : Nat) (h : i < L.length), i < lead L → entry L[i] = true
  | [], i, h, _ => by simp at h
  | x :: r, i, h, hl => by
    unfold lead at hl
    split at hl
    · rename_i hx
      cases i with
      | zero => exact hx
      | succ i => exact lead_lt r i (by simpa using h) (by omega)
    · omega
theorem lead_at : ∀ (L : List (ByteArray × ByteArray)) (h : lead L < L.length), entry L[lead L] = false
  | [], h => by simp at h
  | x :: r, h => by
    by_cases hx : entry x = true
    · have e : lead (x :: r) = lead r + 1 := by rw [lead, if_pos hx]
      have h2 : lead r < r.length := by rw [e] at h; simpa using h
      have := lead_at r h2
      simp only [e, List.getElem_cons_succ]
      exact this
    · have e : lead (x :: r) = 0 := by rw [lead, if_neg hx]
      simp only [e, List.getElem_cons_zero]
      simpa using hx

def filled (L : List (ByteArray × ByteArray)) : Bool := decide (L.length = 4) && !((L.drop (lead L)).any (fun s => !decide (s = slot0)))

theorem SlSl.rest {w : World} {g o c : Nat} {L : List (ByteArray × ByteArray)} (h : SlSl w (some ⟨g, o, none⟩) c L) (k : Nat) (hk : k ≤ L.length) : SlSl w (some ⟨g, o + k * 2, none⟩) (c - k) (L.drop k) := by
  refine ⟨by rw [List.length_drop]; have := h.1; omega, fun i hi => ?_⟩
  rw [List.length_drop] at hi
  obtain ⟨g', o', e, h1, h2⟩ := h.2 (k + i) (by omega)
  cases e
  refine ⟨g, o + k * 2, rfl, ?_, ?_⟩
  · rw [List.getElem_drop, ← h1]; congr 2; omega
  · rw [List.getElem_drop, ← h2]; congr 2; omega

set_option maxRecDepth 100000 in
set_option maxHeartbeats 1600000 in
theorem filled_any (w : World) (p : Option Addr) (c : Nat) (L : List (ByteArray × ByteArray)) (h : SlSl w p c L) (hl : L.length ≤ 4611686018427387904) :
    Calls Try.prog 42 #[.slice p L.length c] w fun r w' => r = .returned (.bool (filled L)) ∧ Touch Nothing w w' := by
  obtain ⟨n, hn⟩ : ∃ n, n = L.length := ⟨_, rfl⟩
  obtain ⟨bb, hbb⟩ : ∃ b, b = filled L := ⟨_, rfl⟩
  obtain ⟨k, hkl, hlt, hat, hf⟩ : ∃ k, k ≤ L.length ∧ (∀ i (h : i < L.length), i < k → entry L[i] = true) ∧ (∀ (h : k < L.length), entry L[k] = false) ∧ filled L = (decide (L.length = 4) && !((L.drop k).any (fun s => !decide (s = slot0)))) := ⟨lead L, lead_le L, lead_lt L, lead_at L, rfl⟩
  rw [hf] at hbb
  rw [← hn] at hl hkl hbb ⊢
  rw [hf, ← hn, ← hbb]
  clear hf
  replace h := Lib.hid h
  replace hn := Lib.hid hn
  replace hbb := Lib.hid hbb
  replace hlt := Lib.hid hlt
  replace hat := Lib.hid hat
  go_enter Try.func42, Try.ntmps42
  go_wp2
  go_loopw [3] (fun iv wr => ∃ i : Nat, i ≤ k ∧ iv = .int .i64 (i : Int) ∧ Touch Nothing w wr) (fun iv _ => k - (intOf iv).toNat)
  case atStart => exact ⟨0, Nat.zero_le _, rfl, Touch.refl _ _⟩
  case round =>
    obtain ⟨i, hi, rfl, ht⟩ := hrel
    have i0 : (0 : Int) ≤ (i : Int) := by omega
    obtain ⟨kb, hkb⟩ : ∃ b, b = decide (i < k) := ⟨_, rfl⟩
    replace hkb := Lib.hid hkb
    go_upto_region 2 with fail
    go_cut [14] (fun v wx => v = .bool kb ∧ Touch Nothing wr wx)
    case first =>
      by_cases hin : i < n
      · have hiL : i < L.length := by rw [← hn.out]; exact hin
        obtain ⟨g, o, e1, hc0, hc1⟩ := (h.out.keep ht).2 i hiL
        subst e1
        obtain ⟨s, hs⟩ : ∃ s, s = L[i] := ⟨_, rfl⟩
        rw [← hs] at hc0 hc1
        obtain ⟨b, hb⟩ : ∃ b, b = entry s := ⟨_, rfl⟩
        have hC := entry_any wr s b hb
        have i1 : (i : Int) < (n : Int) := by omega
        obtain rfl : b = kb := by
          rw [hkb.out]
          by_cases q : i < k
          · rw [decide_eq_true q, hb, hs]; exact hlt.out i hiL q
          · obtain rfl : i = k := by omega
            rw [decide_eq_false q, hb, hs]; exact hat.out hiL
        replace hb := Lib.hid hb
        replace hs := Lib.hid hs
        obtain ⟨sa, sf⟩ := s
        unfold slV at hC
        simp only [] at hc0 hc1 hC
        replace hC := Lib.hid hC
        go_wp2_with (first | (go_at_call 47; refine hC.out.mono ?_; rintro r w2 ⟨rfl, t2⟩))
        go_meet
        exact ⟨rfl, t2⟩
      · have i1 : ¬ (i : Int) < (n : Int) := by omega
        obtain rfl : kb = false := by rw [hkb.out]; exact decide_eq_false (by omega)
        go_wp2
        go_meet
        exact ⟨rfl, Touch.refl _ _⟩
    case rest =>
    obtain ⟨rfl, tx⟩ := hcut
    obtain ⟨W2, eW2⟩ : ∃ W, W = wc := ⟨_, rfl⟩
    rw [← eW2] at tx ⊢
    have htW := ht.trans' tx
    clear eW2 wc tx ht
    cases kb
    · obtain rfl : i = k := by have := of_decide_eq_false hkb.out.symm; omega
      clear hkb hlt hat hi
      by_cases h4 : n = 4
      · subst h4
        have hiL : 0 < L.length := by rw [← hn.out]; decide
        obtain ⟨g, o, e1, _⟩ := h.out.2 0 hiL
        subst e1
        have hc4 := h.out.1
        rw [← hn.out] at hc4
        have hR := (h.out.keep htW).rest i (by rw [← hn.out]; exact hkl)
        have hlR : (L.drop i).length = 4 - i := by rw [List.length_drop, ← hn.out]
        have i1 : (i : Int) ≤ 4 := by omega
        by_cases hic : i = c
        · obtain rfl : i = 4 := by omega
          subst hic
          have hd : L.drop 4 = [] := List.eq_nil_of_length_eq_zero (by rw [hlR])
          have hC := anySl_any W2 (some ⟨g, o, none⟩) 0 [] ⟨Nat.le_refl _, fun i hi => by simp at hi⟩ (by simp)
          obtain rfl : bb = true := by rw [hbb.out, hd]; rfl
          simp only [List.any_nil, List.length_nil] at hC
          replace hC := Lib.hid hC
          clear hbb hR hlR hd
          go_wp2_with (first | (go_at_call 48; refine hC.out.mono ?_; rintro r w3 ⟨rfl, t3⟩; replace t3 := htW.trans' t3))
          go_ret
          exact ⟨rfl, t3⟩
        · have hC := anySl_any W2 _ _ _ hR (by omega)
          rw [hlR] at hC
          obtain ⟨b2, hb2⟩ : ∃ b, b = (L.drop i).any (fun s => !decide (s = slot0)) := ⟨_, rfl⟩
          rw [← hb2] at hC
          obtain rfl : bb = !b2 := by rw [hbb.out, hb2]; rfl
          have k4 : ¬ c = i := fun q => hic q.symm
          have k5 : (4 : Int) ≤ (c : Int) := by omega
          replace hC := Lib.hid hC
          clear hbb hR hlR hb2
          go_wp2_with (first | (go_at_call 48; refine hC.out.mono ?_; rintro r w3 ⟨rfl, t3⟩; replace t3 := htW.trans' t3))
          go_ret
          exact ⟨rfl, t3⟩
      · obtain rfl : bb = false := by rw [hbb.out]; simp [h4]
        have x1 : ((n : Int) == 4) = false := by simp; omega
        have x2 : ¬ (n : Int) = 4 := by omega
        clear hbb
        go_wp2
        go_ret
        exact ⟨rfl, htW⟩
    · have hik : i < k := of_decide_eq_true hkb.out.symm
      have i2 : IntKind.i64.wrap ((i : Int) + 1) = (i : Int) + 1 := by rw [IntKind.wrap_i64]; omega
      clear hkb
      go_wp2
      exact ⟨⟨i + 1, by omega, by simp, htW⟩, by simp [intOf]; omega⟩

end Go.Proofs.Ytoegkcjclgmnbaa
