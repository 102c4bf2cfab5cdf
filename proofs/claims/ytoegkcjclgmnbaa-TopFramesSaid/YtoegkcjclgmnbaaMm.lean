/-
  Layer 11 (mail): Decode of a message's own text, walked. Printed by mkmm.py.
-/
import Derived.Test.YtoegkcjclgmnbaaMl
import Derived.BigFrame
import Derived.Deep.DeepCutAuto
namespace Go.Proofs.Ytoegkcjclgmnbaa
open Go.RowKit
set_option linter.unusedVariables false
set_option linter.unusedSimpArgs false

section
variable {a : Act} {w : World} {op : Oper} {K : Act → World → Prop} {Q : Exit → Act → World → Prop}
theorem run_eqs {x y : Operand} {s t : ByteArray} {b : Bool} (hb : decide (s = t) = b) (ho : op.op = .binOp .eql 9 x y 9) (hx : a.eval x = .string s) (hy : a.eval y = .string t) :
    (execOp a.eval op).run Try.prog w = .ok (.value (.bool b)) w := by
  have e := bytes_eq s t
  rw [hb] at e
  unfold execOp
  simp only [ho, hx, hy]
  go_simp
  all_goals first | exact e | (rw [e]; done) | (simp [e]; done) | skip
theorem run_nes {x y : Operand} {s t : ByteArray} {b : Bool} (hb : (!decide (s = t)) = b) (ho : op.op = .binOp .neq 9 x y 9) (hx : a.eval x = .string s) (hy : a.eval y = .string t) :
    (execOp a.eval op).run Try.prog w = .ok (.value (.bool b)) w := by
  have e := bytes_eq s t
  subst hb
  unfold execOp
  simp only [ho, hx, hy]
  go_simp
  all_goals first | (rw [e]; done) | (simp [e]; done) | skip
theorem run_ne3 {x y : Operand} {m n : Int} {b : Bool} (hb : (!decide (m = n)) = b) (ho : op.op = .binOp .neq 3 x y 3) (hx : a.eval x = .int .i64 m) (hy : a.eval y = .int .i64 n) :
    (execOp a.eval op).run Try.prog w = .ok (.value (.bool b)) w := by
  subst hb
  unfold execOp
  simp only [ho, hx, hy]
  go_simp
  all_goals rfl
theorem run_eq3 {x y : Operand} {m n : Int} {b : Bool} (hb : decide (m = n) = b) (ho : op.op = .binOp .eql 3 x y 3) (hx : a.eval x = .int .i64 m) (hy : a.eval y = .int .i64 n) :
    (execOp a.eval op).run Try.prog w = .ok (.value (.bool b)) w := by
  subst hb
  unfold execOp
  simp only [ho, hx, hy]
  go_simp
  all_goals rfl
theorem run_ne23 {x y : Operand} {m n : Int} {b : Bool} (hb : (!decide (m = n)) = b) (ho : op.op = .binOp .neq 23 x y 23) (hx : a.eval x = .int .i64 m) (hy : a.eval y = .int .i64 n) :
    (execOp a.eval op).run Try.prog w = .ok (.value (.bool b)) w := by
  subst hb
  unfold execOp
  simp only [ho, hx, hy]
  go_simp
  all_goals rfl
theorem run_pickF {c x y : Operand} {v : Value} (ho : op.op = .pick c x y) (hc : a.eval c = .bool false) (hy : a.eval y = v) :
    (execOp a.eval op).run Try.prog w = .ok (.value v) w := by
  unfold execOp
  simp only [ho, hc, hy]
  go_simp
theorem run_len55 {x : Operand} {p : Option Addr} {n c : Nat} (ho : op.op = .call { callee := .builtin .len, args := #[x], argTypes := #[55] }) (hx : a.eval x = .slice p n c) : (execOp a.eval op).run Try.prog w = .ok (.value (.int .i64 (n : Int))) w := by
  have h : (Builtin.len_ #[55] op.type #[.slice p n c]).run Try.prog w = .ok (.int .i64 (n : Int)) w := by go_simp
  unfold execOp
  simp only [ho, resolve, invoke, builtin, Sem.run_bind, Sem.run_pure, Result.andThen_ok, List.map_toArray, List.map_cons, List.map_nil, hx, h]
theorem run_ia55 {x y : Operand} {gb n c : Nat} (i : Nat) (ho : op.op = .indexAddr 55 x y) (hx : a.eval x = .slice (some ⟨gb, 0, none⟩) n c) (hy : a.eval y = .int .i64 (i : Int)) (hi : i < n) :
    (execOp a.eval op).run Try.prog w = .ok (.value (.pointer (some ⟨gb, i, none⟩))) w := by
  have h0 : (0 : Int) ≤ (i : Int) := by omega
  have h1 : (i : Int) < (n : Int) := by omega
  unfold execOp
  simp only [ho, hx, hy]
  go_simp
end

theorem ret_cell2 {P : Program} {fn : Func} {p t : Tmp} {ty : TypeId} (h : fn.results = #[.cell p ty, .tmp t]) {tmps : Array Value} {w : World} {b : Nat} {cs : List Value} {v : Value} {e : TypeId} {fr : Nat × Nat} {d : TypeDesc}
    (hp : tmps.getD p undef = .pointer (some ⟨b, 0, none⟩)) (ht : tmps.getD t undef = v) (hb : w.heap[b]? = some (.cells cs.toArray e fr)) (hu : P.underlying ty = some d) (hd : d.isRow = true) (hi : (P.info? ty).map (·.size) = some cs.length) :
    (results fn tmps).run P w = .ok (.tuple #[.agg cs.toArray, v]) w := by
  have hl := run_loadVar_mid (P := P) w b 0 ty cs d (range_blk hb) hu hd hi
  simp only [results, h]
  have hp' : tmps[p]?.getD undef = .pointer (some ⟨b, 0, none⟩) := by simpa using hp
  have ht' : tmps[t]?.getD undef = v := by simpa using ht
  simp [hp', ht', asAddr, hl]

/-- The message's block has been laid. -/
theorem dc_start {w w3 w4 : World} {g : Nat} {l r : List UInt8} {k : Int} (eg : g = w.heap.size)
    (h3 : w3 = ((((w.alloc (.cells zeroC.toArray 49)).alloc (.cells #[.string e0] 9)).setCell ⟨g + 1, 0, none⟩ (.string ⟨l.toArray⟩)).setCell ⟨g + 1, 0, none⟩ (.string ⟨r.toArray⟩)).alloc (.cells zeroC.toArray 49))
    (h5 : w4.heap[g + 2]? = some (.cells (mC k 0 0 e0 e0 nilV nilV).toArray 49 (0, 0))) (ht : Touch (fun i => i = g + 2) w3 w4) : Dc w g w4 r k 0 0 e0 nilV nilV [] [] := by
  have s1 : (w.alloc (.cells zeroC.toArray 49)).heap.size = g + 1 := by rw [eg]; simp
  have a1 := heap_alloc_new w (.cells zeroC.toArray 49)
  rw [← eg] at a1
  have a2 := heap_alloc_new (w.alloc (.cells zeroC.toArray 49)) (.cells #[.string e0] 9)
  rw [s1] at a2
  have u1 := (Touch.refl Nothing w).alloc (.cells zeroC.toArray 49)
  have u2 := ((Touch.refl Nothing (w.alloc (.cells zeroC.toArray 49))).alloc (.cells #[.string e0] 9))
  have a3 := u2.heap a1 (fun q => q)
  have u3 := touch_one ((w.alloc (.cells zeroC.toArray 49)).alloc (.cells #[.string e0] 9)) (g + 1) 0 (.string ⟨l.toArray⟩)
  have u4 := touch_one (((w.alloc (.cells zeroC.toArray 49)).alloc (.cells #[.string e0] 9)).setCell ⟨g + 1, 0, none⟩ (.string ⟨l.toArray⟩)) (g + 1) 0 (.string ⟨r.toArray⟩)
  have u5 := u3.trans' u4
  have a4 := u5.heap a3 (by omega)
  have a5 := heap_setCell_same (heap_setCell_same a2 0 (.string ⟨l.toArray⟩)) 0 (.string ⟨r.toArray⟩)
  have u6 := (Touch.refl Nothing ((((w.alloc (.cells zeroC.toArray 49)).alloc (.cells #[.string e0] 9)).setCell ⟨g + 1, 0, none⟩ (.string ⟨l.toArray⟩)).setCell ⟨g + 1, 0, none⟩ (.string ⟨r.toArray⟩))).alloc (.cells zeroC.toArray 49)
  have a6 := u6.heap a4 (fun q => q)
  have a7 := u6.heap a5 (fun q => q)
  have z := lt_of_heap h5
  rw [← h3] at a6 a7 u6
  refine ⟨eg, ?_, by omega, ht.heap a6 (by omega), ?_, h5, OwnS.nil _ _, OwnT.nil _ _⟩
  · have v1 : Touch Nothing w w3 := ((u1.trans' u2).trans u5 (fun i hi q => by omega)).trans' u6
    exact v1.trans ht (fun i hi q => by omega)
  · have := ht.heap a7 (by omega)
    rw [this]
    rfl

theorem mC_one (k u q : Int) (x g : ByteArray) {sv iv : Value} (hs : ∃ p n c, sv = .slice p n c) (hi : ∃ p n c, iv = .slice p n c) : (mC k u q x g sv iv).toArray.all (·.oneCell') = true := by
  obtain ⟨p, n, c, rfl⟩ := hs
  obtain ⟨p2, n2, c2, rfl⟩ := hi
  simp [mC, Value.oneCell']
theorem bytes_touch (w : World) (e : TypeId) (s : ByteArray) : Touch Nothing w (Lib.bytesWorld w e s) :=
  ⟨rfl, rfl, rfl, by rw [Lib.bytesWorld_size]; omega, fun k hk _ => Lib.bytesWorld_at_old w e s k hk⟩

/-- Four bytes make a number. -/
def horn (l : List UInt8) : Nat := l.foldl (fun a b => a * 256 + b.toNat) 0
theorem horn_step (l : List UInt8) (i : Nat) (h : i < l.length) : horn (l.take (i + 1)) = horn (l.take i) * 256 + l[i].toNat := by
  unfold horn
  rw [List.take_succ_eq_append_getElem h, List.foldl_append]
  rfl
theorem horn_lt : ∀ (i : Nat) (l : List UInt8), i ≤ l.length → horn (l.take i) < 256 ^ i
  | 0, l, _ => by simp [horn]
  | i + 1, l, h => by
    rw [horn_step l i (by omega), Nat.pow_succ]
    have := horn_lt i l (by omega)
    have := l[i].toNat_lt
    omega

/-- How much is left to be read. -/
def restN (g : Nat) (w : World) : Nat := match w.cell? ⟨g + 1, 0, none⟩ with
  | some (.string s) => s.size
  | _ => 0
theorem Dc.restN {w w1 : World} {g : Nat} {r : List UInt8} {k u q : Int} {tg : ByteArray} {sv iv : Value} {S : List (ByteArray × ByteArray)} {I : List ByteArray} (h : Dc w g w1 r k u q tg sv iv S I) : restN g w1 = r.length := by
  unfold Go.Proofs.Ytoegkcjclgmnbaa.restN
  rw [h.c4]
  rfl

theorem Rst.lens {m : Ml} {R : List UInt8} {S : List (ByteArray × ByteArray)} {I : List ByteArray} (h : Rst m R S I) : S.length ≤ m.s.length ∧ I.length ≤ m.i.length := by
  rcases h with ⟨_, h1, P, _, h3, _⟩ | ⟨_, h1, P, _, h3, _⟩
  · rw [h1, ← h3, List.length_append]
    omega
  · rw [h1, ← h3, List.length_append]
    omega
/-- The next slot's text, in pieces. -/
theorem Rst.piece {m : Ml} {r : List UInt8} {S : List (ByteArray × ByteArray)} {I : List ByteArray} (h : Rst m r S I) (hr : r ≠ []) (hk : m.k = 3) :
    ∃ (xi xt : ByteArray) (p t R' : List UInt8) (b : UInt8), p.length = 16 ∧ t.length = 222 ∧ r = p ++ (b :: (t ++ R')) ∧ (b.toNat : Int) = (xt.size : Int) ∧ xt.size ≤ 222 ∧ (⟨(t.take xt.size).toArray⟩ : ByteArray) = xt ∧ ((p = zero16 ∧ xi = e0) ∨ (p ≠ zero16 ∧ xi = ⟨p.toArray⟩)) ∧ Rst m R' (S ++ [(xi, xt)]) I := by
  obtain ⟨x, R', hok, hre, hRn⟩ := h.slot hr hk
  obtain ⟨q1, q2, q3, q4, q5, q6⟩ := slot_read hok
  refine ⟨x.1, x.2, _, _, R', _, q1, q2, hre, by rw [q3], q4, q5, ?_, hRn⟩
  rcases q6 with ⟨h1, h2⟩ | ⟨h1, h2⟩
  · exact .inl ⟨h1, h2⟩
  · exact .inr ⟨h1, h2.symm⟩

/-- The message that has been read. -/
theorem dc_ml {w w1 : World} {g : Nat} {r : List UInt8} {tg : ByteArray} {sv iv : Value} {m : Ml} (h : Dc w g w1 r m.k m.u m.q tg sv iv m.s m.i) (hx : m.x = e0) (hg : m.g = tg) : MlA w1 (.agg (mC m.k m.u m.q e0 tg sv iv).toArray) m := by
  obtain ⟨p, c, e1, h1⟩ := h.oS.sl
  obtain ⟨p2, c2, e2, h2⟩ := h.oI.sl
  refine ⟨p, c, p2, c2, ?_, h1, h2⟩
  rw [e1, e2]
  unfold mC mlCs
  rw [hx, hg]

theorem bt_int (n : Int) (h0 : 0 ≤ n) (h1 : n < 256) : ((bt n).toNat : Int) = n := by unfold bt; simp; omega

set_option maxRecDepth 100000 in
set_option maxHeartbeats 3200000 in
theorem Decode_more (w : World) (m : Ml) (hc : chkM m = true) (hk : m.k ≠ 1) :
    Calls Try.prog 23 #[.string ⟨(encM m).toArray⟩] w fun r w' => ∃ v, r = .returned (.tuple #[v, .int .i64 0]) ∧ MlA w' v m ∧ Touch Nothing w w' := by
  obtain ⟨hu, hq, hk2, hx, hg3, hg4, R, hE, hR⟩ := text_more hc hk
  obtain ⟨n, hn⟩ : ∃ n, n = longM m.k := ⟨_, rfl⟩
  have hLg := fun w' => Long_any w' m.k n (by
    rcases hk2 with h | h | h
    · exact .inr (.inl ⟨h, by rw [hn, h]; rfl⟩)
    · exact .inr (.inr (.inl ⟨h, by rw [hn, h]; rfl⟩))
    · exact .inr (.inr (.inr ⟨h, by rw [hn, h]; rfl⟩)))
  have hnb : n ≤ 962 := by
    rw [hn]
    rcases hk2 with h | h | h <;> rw [h] <;> decide
  have hmf := more_facts hc hk
  have hbl := (more_facts hc hk).2.2.2.2.2.2.2
  have hel : (encM m).length = n := by
    unfold encM
    rw [if_neg hk, List.length_append, List.length_replicate, hn]
    omega
  have hkb : ((bt m.k).toNat : Int) = m.k := bt_int _ (by omega) (by omega)
  have hub : ((bt m.u).toNat : Int) = m.u := bt_int _ (by omega) (by omega)
  obtain ⟨E, eE⟩ : ∃ E : List UInt8, E = encM m := ⟨_, rfl⟩
  rw [← eE] at hE hel ⊢
  obtain ⟨bk, ebk⟩ : ∃ b, b = bt m.k := ⟨_, rfl⟩
  obtain ⟨T, hT⟩ : ∃ T, T = bt m.u :: bt (m.q / 16777216) :: bt (m.q / 65536) :: bt (m.q / 256) :: bt m.q :: (tx m.g ++ R) := ⟨_, rfl⟩
  rw [← ebk] at hkb hE
  rw [← hT] at hE
  subst hE
  have hsz : (⟨(bk :: T).toArray⟩ : ByteArray).size = n := by rw [← hel]; rfl
  have hne : (⟨(bk :: T).toArray⟩ : ByteArray) ≠ ⟨#[]⟩ := fun h => by
    have := congrArg ByteArray.size h
    rw [hsz, ← hel] at this
    have e : (⟨#[]⟩ : ByteArray).size = 0 := rfl
    simp [e] at this
  obtain ⟨g, eg⟩ : ∃ g, g = w.heap.size := ⟨_, rfl⟩
  obtain ⟨W0, eW0⟩ : ∃ W, W = w.alloc (.cells zeroC.toArray 49) := ⟨_, rfl⟩
  have s1 : W0.heap.size = g + 1 := by rw [eW0, eg]; simp
  have hEn := fun w' (v : Value) (h : MlA w' v m) => Encode_any w' v m h (by have := hmf.2.2.2.2.1; omega) (by have := hmf.2.2.2.2.2.1; omega)
  unfold encR at hEn
  rw [if_pos hc, ← eE] at hEn
  replace hEn := Lib.hid hEn
  replace hmf := Lib.hid hmf
  replace hLg := Lib.hid hLg
  replace ebk := Lib.hid ebk
  replace eE := Lib.hid eE
  replace hn := Lib.hid hn
  replace hne := Lib.hid hne
  replace hsz := Lib.hid hsz
  replace hT := Lib.hid hT
  replace hR := Lib.hid hR
  replace hub := Lib.hid hub
  replace hkb := Lib.hid hkb
  replace hel := Lib.hid hel
  replace eW0 := Lib.hid eW0
  replace eg := Lib.hid eg
  go_enter Try.func23, Try.ntmps23
  go_upto_region 0 with fail
  refine wp_region_list ?_
  refine l_value rfl (run_al49 rfl) ?_
  simp only [Act.put, List.setIfInBounds_toArray, List.set_cons_zero, List.set_cons_succ]
  refine l_value rfl (run_asgn (v := .int .i64 0) rfl rfl) ?_
  simp only [Act.put, List.setIfInBounds_toArray, List.set_cons_zero, List.set_cons_succ]
  refine wpList_nil ?_
  rw [← eW0.out, ← eg.out]
  go_upto_region 1 with fail
  refine wp_region_list ?_
  refine l_value rfl (run_move (v := .string ⟨(bk :: T).toArray⟩) rfl rfl) ?_
  simp only [Act.put, List.setIfInBounds_toArray, List.set_cons_zero, List.set_cons_succ]
  refine l_value rfl (run_eqs (s := ⟨(bk :: T).toArray⟩) (t := ⟨#[]⟩) (decide_eq_false hne.out) rfl rfl rfl) ?_
  simp only [Act.put, List.setIfInBounds_toArray, List.set_cons_zero, List.set_cons_succ]
  refine l_value rfl (run_move (v := .bool false) rfl rfl) ?_
  simp only [Act.put, List.setIfInBounds_toArray, List.set_cons_zero, List.set_cons_succ]
  refine BigFrame.wpList_want (by kernel_rfl) (fun _ hK => wp_value (run_move (v := .string ⟨(bk :: T).toArray⟩) rfl rfl) (hK _ _ ?_))
  clear hK
  simp only [Act.put, List.setIfInBounds_toArray, List.set_cons_zero, List.set_cons_succ]
  refine BigFrame.wpList_want (by kernel_rfl) (fun _ hK => wp_value (run_len9 (s := ⟨(bk :: T).toArray⟩) rfl rfl) (hK _ _ ?_))
  clear hK
  simp only [Act.put, List.setIfInBounds_toArray, List.set_cons_zero, List.set_cons_succ]
  refine BigFrame.wpList_want (by kernel_rfl) (fun _ hK => wp_value (run_move (v := .string ⟨(bk :: T).toArray⟩) rfl rfl) (hK _ _ ?_))
  clear hK
  simp only [Act.put, List.setIfInBounds_toArray, List.set_cons_zero, List.set_cons_succ]
  refine BigFrame.wpList_want (by kernel_rfl) (fun _ hK => wp_value (run_idx0 (b := bk) (r := T) rfl rfl) (hK _ _ ?_))
  clear hK
  simp only [Act.put, List.setIfInBounds_toArray, List.set_cons_zero, List.set_cons_succ]
  refine BigFrame.wpList_want (by kernel_rfl) (fun _ hK => wp_value (run_cv53 (b := bk) rfl rfl) (hK _ _ ?_))
  clear hK
  simp only [Act.put, List.setIfInBounds_toArray, List.set_cons_zero, List.set_cons_succ]
  rw [hkb.out, hsz.out]
  refine BigFrame.wpList_want (by kernel_rfl) (fun K hK => wp_callf cf37 rfl _ rfl #[] rfl rfl (hLg.out _) (fun w' e => hK _ _ ?_))
  rw [e]
  clear e w'
  clear hK K
  simp only [Act.put, List.setIfInBounds_toArray, List.set_cons_zero, List.set_cons_succ]
  refine BigFrame.wpList_want (by kernel_rfl) (fun _ hK => wp_value (run_ne3 (b := false) (m := (n : Int)) (n := (n : Int)) (by simp) rfl rfl rfl) (hK _ _ ?_))
  clear hK
  simp only [Act.put, List.setIfInBounds_toArray, List.set_cons_zero, List.set_cons_succ]
  refine l_value rfl (run_pickF (v := .bool false) rfl rfl rfl) ?_
  simp only [Act.put, List.setIfInBounds_toArray, List.set_cons_zero, List.set_cons_succ]
  refine wpList_nil ?_
  go_upto_region 3 with fail
  refine wp_region_list ?_
  refine l_value rfl (run_move (v := .string ⟨(bk :: T).toArray⟩) rfl rfl) ?_
  simp only [Act.put, List.setIfInBounds_toArray, List.set_cons_zero, List.set_cons_succ]
  refine l_value rfl (run_al9 rfl) ?_
  simp only [Act.put, List.setIfInBounds_toArray, List.set_cons_zero, List.set_cons_succ]
  rw [s1]
  have b1 := heap_alloc_new W0 (.cells #[.string e0] 9)
  rw [s1] at b1
  refine wpList_plain rfl fun _ hK => wp_skip (run_st9 (s := ⟨(bk :: T).toArray⟩) rfl rfl rfl (cell_at b1 0) (frz_blk b1 0)) (hK _ _ ?_)
  clear hK
  simp only [Act.put, List.setIfInBounds_toArray, List.set_cons_zero, List.set_cons_succ]
  refine wpList_nil ?_
  have b2 := heap_setCell_same b1 0 (.string ⟨(bk :: T).toArray⟩)
  obtain ⟨W1, eW1⟩ : ∃ W, W = (W0.alloc (.cells #[.string e0] 9)).setCell ⟨g + 1, 0, none⟩ (.string ⟨(bk :: T).toArray⟩) := ⟨_, rfl⟩
  rw [← eW1] at b2 ⊢
  replace eW1 := Lib.hid eW1
  clear b1
  go_upto_region 4 with fail
  refine wp_region_list ?_
  refine l_call (args := #[.pointer (some ⟨g + 1, 0, none⟩), .int .i64 1]) rfl cf38 rfl _ rfl #[] rfl rfl (cut_l W1 (g + 1) (bk :: T) [bk] T 1 rfl rfl (by rw [hel.out]; omega) (cell_at b2 0) (frz_blk b2 0)) (fun w' e => ?_)
  simp only [Act.put, List.setIfInBounds_toArray, List.set_cons_zero, List.set_cons_succ]
  refine l_value rfl (run_idx0 (b := bk) (r := []) rfl rfl) ?_
  simp only [Act.put, List.setIfInBounds_toArray, List.set_cons_zero, List.set_cons_succ]
  refine l_value rfl (run_cv53 (b := bk) rfl rfl) ?_
  simp only [Act.put, List.setIfInBounds_toArray, List.set_cons_zero, List.set_cons_succ]
  rw [hkb.out]
  refine l_value rfl (run_bld49 (k := m.k) rfl rfl) ?_
  simp only [Act.put, List.setIfInBounds_toArray, List.set_cons_zero, List.set_cons_succ]
  refine l_value rfl (run_al49 rfl) ?_
  simp only [Act.put, List.setIfInBounds_toArray, List.set_cons_zero, List.set_cons_succ]
  have z2 : w'.heap.size = g + 2 := by rw [e, eW1.out]; simp [World.setCell, s1]
  have b3 := heap_alloc_new w' (.cells zeroC.toArray 49)
  rw [z2] at b3 ⊢
  refine wpList_plain rfl fun _ hK => wp_st49 (g := g + 2) (C := zeroC) (D := mC m.k 0 0 e0 e0 nilV nilV) rfl rfl rfl rfl rfl b3 (mC_one _ _ _ _ _ ⟨_, _, _, rfl⟩ ⟨_, _, _, rfl⟩) (fun w4 h5 ht => hK _ _ ?_)
  clear hK
  simp only [Act.put, List.setIfInBounds_toArray, List.set_cons_zero, List.set_cons_succ]
  refine wpList_nil ?_
  have hD := dc_start (w3 := w'.alloc (.cells zeroC.toArray 49)) (l := bk :: T) (r := T) eg.out (by rw [e, eW1.out, eW0.out]) h5 ht
  clear h5 ht b3 z2 e b2 eW1 eW0 s1 w' W1 W0 hne hsz hLg
  have k0 := hD.k0
  replace hD := Lib.hid hD
  have hk1 : (m.k == 1) = false := by simp [hk]
  go_upto_region 8 with fail
  refine wp_region_list ?_
  clear k0 hk1
  refine l_call (args := #[.pointer (some ⟨g + 1, 0, none⟩), .int .i64 1]) rfl cf38 rfl _ rfl #[] rfl rfl (hD.out.cut [bt m.u] (bt (m.q / 16777216) :: bt (m.q / 65536) :: bt (m.q / 256) :: bt m.q :: (tx m.g ++ R)) 1 hT.out rfl (by have := hel.out; simp only [List.length_cons] at this; omega)) (fun w5 hD5 => ?_)
  simp only [Act.put, List.setIfInBounds_toArray, List.set_cons_zero, List.set_cons_succ]
  refine l_value rfl (run_idx0 (b := bt m.u) (r := []) rfl rfl) ?_
  simp only [Act.put, List.setIfInBounds_toArray, List.set_cons_zero, List.set_cons_succ]
  refine l_value rfl (run_cv53 (b := bt m.u) rfl rfl) ?_
  simp only [Act.put, List.setIfInBounds_toArray, List.set_cons_zero, List.set_cons_succ]
  rw [hub.out]
  refine l_value rfl (run_f49 1 rfl rfl (by decide)) ?_
  simp only [Act.put, List.setIfInBounds_toArray, List.set_cons_zero, List.set_cons_succ]
  refine wpList_plain rfl fun _ hK => wp_skip (run_st3 rfl rfl rfl hD5.k1 (hD5.f5 1)) (hK _ _ ?_)
  clear hK
  simp only [Act.put, List.setIfInBounds_toArray, List.set_cons_zero, List.set_cons_succ]
  refine wpList_nil ?_
  have hD6 := hD5.setU m.u
  obtain ⟨W6, eW6⟩ : ∃ W, W = w5.setCell ⟨g + 2, 1, none⟩ (.int .i64 m.u) := ⟨_, rfl⟩
  rw [← eW6] at hD6 ⊢
  clear hD5 hD eW6 w5 w4
  replace hD6 := Lib.hid hD6
  go_upto_region 9 with fail
  refine wp_region_list ?_
  refine l_call (args := #[.pointer (some ⟨g + 1, 0, none⟩), .int .i64 4]) rfl cf38 rfl _ rfl #[] rfl rfl (hD6.out.cut [bt (m.q / 16777216), bt (m.q / 65536), bt (m.q / 256), bt m.q] (tx m.g ++ R) 4 rfl rfl (by have := hel.out; rw [hT.out] at this; simp only [List.length_cons] at this ⊢; omega)) (fun w7 hD7 => ?_)
  simp only [Act.put, List.setIfInBounds_toArray, List.set_cons_zero, List.set_cons_succ]
  refine wpList_plain rfl fun _ hK => wp_cv955 (s := ⟨[bt (m.q / 16777216), bt (m.q / 65536), bt (m.q / 256), bt m.q].toArray⟩) rfl rfl (hK _ _ ?_)
  clear hK
  simp only [Act.put, List.setIfInBounds_toArray, List.set_cons_zero, List.set_cons_succ]
  refine l_value rfl (run_len55 (n := 4) rfl rfl) ?_
  simp only [Act.put, List.setIfInBounds_toArray, List.set_cons_zero, List.set_cons_succ]
  refine l_value rfl (run_move (v := .int .i64 0) rfl rfl) ?_
  simp only [Act.put, List.setIfInBounds_toArray, List.set_cons_zero, List.set_cons_succ]
  refine wpList_nil ?_
  obtain ⟨gb, egb⟩ : ∃ gb, gb = w7.heap.size := ⟨_, rfl⟩
  obtain ⟨bs, ebs⟩ : ∃ bs, bs = [bt (m.q / 16777216), bt (m.q / 65536), bt (m.q / 256), bt m.q] := ⟨_, rfl⟩
  obtain ⟨W8, eW8⟩ : ∃ W, W = Lib.bytesWorld w7 5 ⟨bs.toArray⟩ := ⟨_, rfl⟩
  have hqn : ((horn bs : Nat) : Int) = m.q := by
    have := q_bytes m.q hq.1 hq.2
    have e : horn bs = ((((bt (m.q / 16777216)).toNat * 256 + (bt (m.q / 65536)).toNat) * 256 + (bt (m.q / 256)).toNat) * 256 + (bt m.q).toNat : Nat) := by rw [ebs]; simp [horn]
    rw [e, this]
    omega
  have hD8 : Dc w g W8 (tx m.g ++ R) m.k m.u 0 e0 nilV nilV [] [] := by rw [eW8]; exact hD7.keep (bytes_touch _ _ _)
  have hbl2 : bs.length = 4 := by rw [ebs]; rfl
  have hgb : g + 3 ≤ gb := by rw [egb]; exact hD7.sz
  have hbc : ∀ j, j < 4 → W8.cell? ⟨gb, j, none⟩ = some (byteV (bs.getD j 0)) := by
    intro j hj
    have := Lib.bytesWorld_cell w7 5 ⟨bs.toArray⟩ j (by show j < bs.length; omega)
    rw [← eW8, ← egb] at this
    rw [this]
    rfl
  rw [← ebs, ← eW8, ← egb]
  have hbz : (⟨bs.toArray⟩ : ByteArray).size = 4 := hbl2
  rw [hbz]
  generalize grownCap w7 _ 0 5 = cb
  clear eW8 egb hD7 hD6 W6 w7 ebs
  replace hbc := Lib.hid hbc
  replace hD8 := Lib.hid hD8
  replace hqn := Lib.hid hqn
  go_wp2
  go_loopw [7, 43] (fun sv iv wr => ∃ i : Nat, i ≤ 4 ∧ iv = .int .i64 (i : Int) ∧ Dc w g wr (tx m.g ++ R) m.k m.u ((horn (bs.take i) : Nat) : Int) e0 nilV nilV [] [] ∧ (∀ j, j < 4 → wr.cell? ⟨gb, j, none⟩ = some (byteV (bs.getD j 0)))) (fun _ iv _ => 4 - (intOf iv).toNat)
  case atStart => exact ⟨0, Nat.zero_le _, rfl, hD8.out, hbc.out⟩
  case round =>
    obtain ⟨i, hi, rfl, hDr, hcr⟩ := hrel
    by_cases hlt : i < 4
    · have i0 : (0 : Int) ≤ (i : Int) := by omega
      have i1 : (i : Int) < 4 := by omega
      have i2 : IntKind.i64.wrap ((i : Int) + 1) = (i : Int) + 1 := by rw [IntKind.wrap_i64]; omega
      have hst := horn_step bs i (by omega)
      have hlt2 := horn_lt i bs (by omega)
      have hp : 256 ^ i ≤ 256 ^ 3 := Nat.pow_le_pow_right (by decide) (by omega)
      have hcb := hcr i hlt
      rw [List.getD_eq_getElem?_getD, List.getElem?_eq_getElem (by omega), Option.getD_some] at hcb
      obtain ⟨b, eb⟩ : ∃ b, b = bs[i] := ⟨_, rfl⟩
      rw [← eb] at hcb hst
      replace hcr := Lib.hid hcr
      replace hDr := Lib.hid hDr
      replace hst := Lib.hid hst
      replace hcb := Lib.hid hcb
      go_upto_region 11 with fail
      refine wp_region_list ?_
      refine l_value rfl (run_ia55 (n := 4) i rfl rfl rfl hlt) ?_
      simp only [Act.put, List.setIfInBounds_toArray, List.set_cons_zero, List.set_cons_succ]
      refine l_value rfl (run_ld5 rfl rfl hcb.out) ?_
      simp only [Act.put, List.setIfInBounds_toArray, List.set_cons_zero, List.set_cons_succ]
      refine l_value rfl (run_asgn (v := byteV b) rfl rfl) ?_
      simp only [Act.put, List.setIfInBounds_toArray, List.set_cons_zero, List.set_cons_succ]
      refine wpList_nil ?_
      go_upto_region 12 with fail
      refine wp_region_list ?_
      refine l_value rfl (run_f49 2 rfl rfl (by decide)) ?_
      simp only [Act.put, List.setIfInBounds_toArray, List.set_cons_zero, List.set_cons_succ]
      refine l_value rfl (run_ld3 rfl rfl hDr.out.k2) ?_
      simp only [Act.put, List.setIfInBounds_toArray, List.set_cons_zero, List.set_cons_succ]
      refine l_value rfl (run_shl8 (m := ((horn (bs.take i) : Nat) : Int)) (((horn (bs.take i) : Nat) : Int) * 256) rfl rfl rfl (by omega) (by omega)) ?_
      simp only [Act.put, List.setIfInBounds_toArray, List.set_cons_zero, List.set_cons_succ]
      refine l_value rfl (run_move (v := byteV b) rfl rfl) ?_
      simp only [Act.put, List.setIfInBounds_toArray, List.set_cons_zero, List.set_cons_succ]
      refine l_value rfl (run_cv53 (b := b) rfl rfl) ?_
      simp only [Act.put, List.setIfInBounds_toArray, List.set_cons_zero, List.set_cons_succ]
      refine l_value rfl (run_or8 (m := horn (bs.take i)) (b := b) (z := ((horn (bs.take i) : Nat) : Int) * 256) (z2 := ((horn (bs.take (i + 1)) : Nat) : Int)) rfl rfl rfl rfl (by omega) (by rw [hst.out])) ?_
      simp only [Act.put, List.setIfInBounds_toArray, List.set_cons_zero, List.set_cons_succ]
      refine l_value rfl (run_f49 2 rfl rfl (by decide)) ?_
      simp only [Act.put, List.setIfInBounds_toArray, List.set_cons_zero, List.set_cons_succ]
      refine wpList_plain rfl fun _ hK => wp_skip (run_st3 rfl rfl rfl hDr.out.k2 (hDr.out.f5 2)) (hK _ _ ?_)
      clear hK
      simp only [Act.put, List.setIfInBounds_toArray, List.set_cons_zero, List.set_cons_succ]
      refine wpList_nil ?_
      have hD9 := hDr.out.setQ ((horn (bs.take (i + 1)) : Nat) : Int)
      have ht9 := touch_one wr (g + 2) 2 (.int .i64 ((horn (bs.take (i + 1)) : Nat) : Int))
      obtain ⟨W9, eW9⟩ : ∃ W, W = wr.setCell ⟨g + 2, 2, none⟩ (.int .i64 ((horn (bs.take (i + 1)) : Nat) : Int)) := ⟨_, rfl⟩
      rw [← eW9] at hD9 ht9 ⊢
      replace hD9 := Lib.hid hD9
      replace ht9 := Lib.hid ht9
      clear eW9 hDr hst hcb eb hlt2 hp
      go_wp2
      exact ⟨⟨i + 1, by omega, rfl, hD9.out, fun j hj => ht9.out.cell (hcr.out j hj) (show ¬ gb = g + 2 by omega)⟩, by simp [intOf]; omega⟩
    · obtain rfl : i = 4 := by omega
      have htk : bs.take 4 = bs := List.take_of_length_le (by omega)
      rw [htk, hqn.out] at hDr
      clear hcr htk
      replace hDr := Lib.hid hDr
      go_upto_region 14 with fail

      by_cases h3 : m.k = 3
      · have hg0 := hg3 h3
        have hRf := hR.out
        have hR3 : R.length ≤ 962 := by
          have := hel.out
          rw [hT.out] at this
          simp only [List.length_cons, List.length_append] at this
          omega
        have hsl := (more_facts hc hk).2.2.2.2.1
        replace hDr := hDr.out
        rw [hg0, tx_e0, List.nil_append] at hDr
        replace hRf := Lib.hid hRf
        refine wp_region_list ?_
        refine l_value rfl (run_f49 0 rfl rfl (by decide)) ?_
        simp only [Act.put, List.setIfInBounds_toArray, List.set_cons_zero, List.set_cons_succ]
        refine l_value rfl (run_ld3 rfl rfl hDr.k0) ?_
        simp only [Act.put, List.setIfInBounds_toArray, List.set_cons_zero, List.set_cons_succ]
        refine l_value rfl (run_ne3 (b := false) (m := m.k) (n := 3) (by simp [h3]) rfl rfl rfl) ?_
        simp only [Act.put, List.setIfInBounds_toArray, List.set_cons_zero, List.set_cons_succ]
        refine wpList_nil ?_
        replace hDr := Lib.hid hDr
        obtain ⟨wo, rfl⟩ : ∃ wo : World, wo = wr := ⟨_, rfl⟩
        clear hD8 hbc
        go_wp2
        go_loopw [8, 9, 10] (fun _ _ _ wr => ∃ r sv iv S I, Dc w g wr r m.k m.u m.q e0 sv iv S I ∧ Rst m r S I ∧ r.length ≤ 962) (fun _ _ _ wr => restN g wr)
        case atStart => exact ⟨R, nilV, nilV, [], [], hDr.out, hRf.out, hR3⟩
        case round =>
          obtain ⟨r, sv, iv, S, I, hDl, hRl, hrl⟩ := hrel
          replace hDl := Lib.hid hDl
          by_cases hr : r = []
          · subst hr
            obtain ⟨e1, e2⟩ := hRl.done
            subst e1 e2
            have hMl := dc_ml hDl.out hx hg0
            replace hRl := Lib.hid hRl
            replace hMl := Lib.hid hMl
            go_upto_region 16 with fail
            refine wp_region_list ?_
            refine l_value rfl (run_ld9 rfl rfl hDl.out.c4) ?_
            simp only [Act.put, List.setIfInBounds_toArray, List.set_cons_zero, List.set_cons_succ]
            refine l_value rfl (run_nes (b := false) (by rfl) rfl rfl rfl) ?_
            simp only [Act.put, List.setIfInBounds_toArray, List.set_cons_zero, List.set_cons_succ]
            refine wpList_nil ?_
            go_upto_region 26 with fail
            refine wp_region_list ?_
            refine l_value rfl (run_loadR rfl rfl (range_blk hDl.out.h5) Try.underlying49 rfl (by kernel_rfl)) ?_
            simp only [Act.put, List.setIfInBounds_toArray, List.set_cons_zero, List.set_cons_succ]
            refine l_call (args := #[.agg (mC m.k m.u m.q e0 e0 sv iv).toArray]) rfl cf22 rfl _ rfl #[] rfl rfl (hEn.out _ _ hMl.out) (fun w20 t20 => ?_)
            simp only [Act.put, List.setIfInBounds_toArray, List.set_cons_zero, List.set_cons_succ]
            refine l_value rfl (run_move (v := .tuple #[.string ⟨(bk :: T).toArray⟩, .int .i64 0]) rfl rfl) ?_
            simp only [Act.put, List.setIfInBounds_toArray, List.set_cons_zero, List.set_cons_succ]
            refine l_value rfl (run_ext (v := .string ⟨(bk :: T).toArray⟩) rfl rfl (by kernel_rfl)) ?_
            simp only [Act.put, List.setIfInBounds_toArray, List.set_cons_zero, List.set_cons_succ]
            refine l_value rfl (run_ext (v := .int .i64 0) rfl rfl (by kernel_rfl)) ?_
            simp only [Act.put, List.setIfInBounds_toArray, List.set_cons_zero, List.set_cons_succ]
            refine l_value rfl (run_asgn (v := .string ⟨(bk :: T).toArray⟩) rfl rfl) ?_
            simp only [Act.put, List.setIfInBounds_toArray, List.set_cons_zero, List.set_cons_succ]
            refine l_value rfl (run_asgn (v := .int .i64 0) rfl rfl) ?_
            simp only [Act.put, List.setIfInBounds_toArray, List.set_cons_zero, List.set_cons_succ]
            refine wpList_nil ?_
            go_upto_region 27 with fail
            refine wp_region_list ?_
            refine l_value rfl (run_move (v := .int .i64 0) rfl rfl) ?_
            simp only [Act.put, List.setIfInBounds_toArray, List.set_cons_zero, List.set_cons_succ]
            refine l_value rfl (run_ne23 (b := false) (by rfl) rfl rfl rfl) ?_
            simp only [Act.put, List.setIfInBounds_toArray, List.set_cons_zero, List.set_cons_succ]
            refine l_value rfl (run_move (v := .bool false) rfl rfl) ?_
            simp only [Act.put, List.setIfInBounds_toArray, List.set_cons_zero, List.set_cons_succ]
            refine BigFrame.wpList_want (by kernel_rfl) (fun _ hK => wp_value (run_move (v := .string ⟨(bk :: T).toArray⟩) rfl rfl) (hK _ _ ?_))
            clear hK
            simp only [Act.put, List.setIfInBounds_toArray, List.set_cons_zero, List.set_cons_succ]
            refine BigFrame.wpList_want (by kernel_rfl) (fun _ hK => wp_value (run_move (v := .string ⟨(bk :: T).toArray⟩) rfl rfl) (hK _ _ ?_))
            clear hK
            simp only [Act.put, List.setIfInBounds_toArray, List.set_cons_zero, List.set_cons_succ]
            refine BigFrame.wpList_want (by kernel_rfl) (fun _ hK => wp_value (run_nes (b := false) (by simp) rfl rfl rfl) (hK _ _ ?_))
            clear hK
            simp only [Act.put, List.setIfInBounds_toArray, List.set_cons_zero, List.set_cons_succ]
            refine l_value rfl (run_pickF (v := .bool false) rfl rfl rfl) ?_
            simp only [Act.put, List.setIfInBounds_toArray, List.set_cons_zero, List.set_cons_succ]
            refine wpList_nil ?_
            have hD20 := hDl.out.keep t20
            have hM20 := hMl.out.keep t20
            replace hD20 := Lib.hid hD20
            replace hM20 := Lib.hid hM20
            go_upto_region 29 with fail
            refine wp_region_list ?_
            refine l_value rfl (run_loadR rfl rfl (range_blk hD20.out.h5) Try.underlying49 rfl (by kernel_rfl)) ?_
            simp only [Act.put, List.setIfInBounds_toArray, List.set_cons_zero, List.set_cons_succ]
            refine wpList_plain rfl fun _ hK => wp_st49 (g := g) (C := zeroC) (D := mC m.k m.u m.q e0 e0 sv iv) rfl rfl rfl rfl rfl hD20.out.h2 (mC_one _ _ _ _ _ hD20.out.oS.isSl hD20.out.oI.isSl) (fun w21 h21 t21 => hK _ _ ?_)
            clear hK
            simp only [Act.put, List.setIfInBounds_toArray, List.set_cons_zero, List.set_cons_succ]
            refine l_value rfl (run_asgn (v := .int .i64 0) rfl rfl) ?_
            simp only [Act.put, List.setIfInBounds_toArray, List.set_cons_zero, List.set_cons_succ]
            refine wpList_nil ?_
            have hD21 := hD20.out.oS.keep t21 (fun b hb q => by have := hD20.out.oS.2 b hb; omega)
            have hI21 := hD20.out.oI.keep t21 (fun b hb q => by have := hD20.out.oI.2 b hb; omega)
            have hM21 : MlA w21 (.agg (mC m.k m.u m.q e0 e0 sv iv).toArray) m := by
              obtain ⟨p, c, e1, h1⟩ := hD21.sl
              obtain ⟨p2, c2, e2, h2⟩ := hI21.sl
              refine ⟨p, c, p2, c2, ?_, h1, h2⟩
              rw [e1, e2]
              unfold mC mlCs
              rw [hx, hg0]
            have hT21 : Touch Nothing w w21 := hD20.out.t.trans t21 (fun i hi q => by have := eg.out; omega)
            replace hM21 := Lib.hid hM21
            replace hT21 := Lib.hid hT21
            replace h21 := Lib.hid h21
            clear hD21 hI21 t21 hM20 hD20 t20 hMl
            go_wp2
            exact bodyPost_ret (v := .tuple #[.agg (mC m.k m.u m.q e0 e0 sv iv).toArray, .int .i64 0]) (ret_cell2 rfl rfl rfl h21.out Try.underlying49 rfl (by kernel_rfl)) rfl ⟨_, rfl, hM21.out, hT21.out⟩

          · obtain ⟨xi, xt, p, t, R', b, hp, ht, hre, hb, hxt, htk, hpx, hRn⟩ := hRl.piece hr h3
            have hSl := hRl.lens.1
            have hrne : (⟨r.toArray⟩ : ByteArray) ≠ ⟨#[]⟩ := fun h => hr (by have := congrArg (fun z : ByteArray => z.data.toList) h; simpa using this)
            have hmz : r.length = 16 + (1 + (222 + R'.length)) := by rw [hre]; simp only [List.length_append, List.length_cons, hp, ht]; omega
            replace hRl := Lib.hid hRl
            replace hRn := Lib.hid hRn
            replace hb := Lib.hid hb
            replace htk := Lib.hid htk
            replace hre := Lib.hid hre
            replace hrne := Lib.hid hrne
            go_upto_region 16 with fail
            refine wp_region_list ?_
            refine l_value rfl (run_ld9 rfl rfl hDl.out.c4) ?_
            simp only [Act.put, List.setIfInBounds_toArray, List.set_cons_zero, List.set_cons_succ]
            refine l_value rfl (run_nes (b := true) (by rw [decide_eq_false hrne.out]; rfl) rfl rfl rfl) ?_
            simp only [Act.put, List.setIfInBounds_toArray, List.set_cons_zero, List.set_cons_succ]
            refine wpList_nil ?_
            go_upto_region 17 with fail
            refine wp_region_list ?_
            refine l_call (args := #[.pointer (some ⟨g + 1, 0, none⟩), .int .i64 16]) rfl cf38 rfl _ rfl #[] rfl rfl (hDl.out.cut p (b :: (t ++ R')) 16 hre.out hp (by omega)) (fun w10 hDa => ?_)
            simp only [Act.put, List.setIfInBounds_toArray, List.set_cons_zero, List.set_cons_succ]
            refine l_value rfl (run_asgn (v := .string ⟨p.toArray⟩) rfl rfl) ?_
            simp only [Act.put, List.setIfInBounds_toArray, List.set_cons_zero, List.set_cons_succ]
            refine wpList_nil ?_
            replace hDa := Lib.hid hDa
            rcases hpx with ⟨hpz, hpx⟩ | ⟨hpz, hpx⟩
            · subst hpx
              go_upto_region 18 with fail
              refine wp_region_list ?_
              refine l_value rfl (run_move (v := .string ⟨p.toArray⟩) rfl rfl) ?_
              simp only [Act.put, List.setIfInBounds_toArray, List.set_cons_zero, List.set_cons_succ]
              refine l_value rfl (run_eqs (b := true) (t := ⟨zero16.toArray⟩) (decide_eq_true (by rw [hpz])) rfl rfl rfl) ?_
              simp only [Act.put, List.setIfInBounds_toArray, List.set_cons_zero, List.set_cons_succ]
              refine wpList_nil ?_
              go_upto_region 20 with fail
              refine wp_region_list ?_
              refine l_value rfl (run_f49 0 rfl rfl (by decide)) ?_
              simp only [Act.put, List.setIfInBounds_toArray, List.set_cons_zero, List.set_cons_succ]
              refine l_value rfl (run_ld3 rfl rfl hDa.out.k0) ?_
              simp only [Act.put, List.setIfInBounds_toArray, List.set_cons_zero, List.set_cons_succ]
              refine l_value rfl (run_eq3 (b := true) (m := m.k) (n := 3) (by simp [h3]) rfl rfl rfl) ?_
              simp only [Act.put, List.setIfInBounds_toArray, List.set_cons_zero, List.set_cons_succ]
              refine l_value rfl (run_asgn (v := .bool true) rfl rfl) ?_
              simp only [Act.put, List.setIfInBounds_toArray, List.set_cons_zero, List.set_cons_succ]
              refine wpList_nil ?_
              go_upto_region 21 with fail
              refine wp_region_list ?_
              refine l_call (args := #[.pointer (some ⟨g + 1, 0, none⟩), .int .i64 1]) rfl cf38 rfl _ rfl #[] rfl rfl (hDa.out.cut [b] (t ++ R') 1 rfl rfl (by simp only [List.length_cons, List.length_append, ht]; omega)) (fun w11 hDb => ?_)
              simp only [Act.put, List.setIfInBounds_toArray, List.set_cons_zero, List.set_cons_succ]
              refine l_value rfl (run_idx0 (b := b) (r := []) rfl rfl) ?_
              simp only [Act.put, List.setIfInBounds_toArray, List.set_cons_zero, List.set_cons_succ]
              refine l_value rfl (run_cv53 (b := b) rfl rfl) ?_
              simp only [Act.put, List.setIfInBounds_toArray, List.set_cons_zero, List.set_cons_succ]
              rw [hb.out]
              refine l_value rfl (run_asgn (v := .int .i64 (xt.size : Int)) rfl rfl) ?_
              simp only [Act.put, List.setIfInBounds_toArray, List.set_cons_zero, List.set_cons_succ]
              refine wpList_nil ?_
              replace hDb := Lib.hid hDb
              go_upto_region 22 with fail
              refine wp_region_list ?_
              refine l_call (args := #[.pointer (some ⟨g + 1, 0, none⟩), .int .i64 222]) rfl cf38 rfl _ rfl #[] rfl rfl (hDb.out.cut t R' 222 rfl ht (by simp only [List.length_append, ht]; omega)) (fun w12 hDc => ?_)
              simp only [Act.put, List.setIfInBounds_toArray, List.set_cons_zero, List.set_cons_succ]
              refine l_value rfl (run_asgn (v := .string ⟨t.toArray⟩) rfl rfl) ?_
              simp only [Act.put, List.setIfInBounds_toArray, List.set_cons_zero, List.set_cons_succ]
              refine wpList_nil ?_
              replace hDc := Lib.hid hDc
              go_upto_region 23 with fail
              refine app_step w w12 g hDc.out (e0, xt) t (by rw [ht]; exact hxt) hxt htk.out (by omega) (fun _ _ _ d _ h => by cases d <;> exact h) ?_
              intro W' sv' y73 y74 y75 y76 y77 y78 y79 y80 y81 y82 y83 hDn
              replace hDn := Lib.hid hDn
              clear hDc hDb hDa
              go_wp2
              exact ⟨⟨R', sv', iv, S ++ [(e0, xt)], I, hDn.out, hRn.out, by omega⟩, by rw [hDn.out.restN, hDl.out.restN]; omega⟩
            · subst hpx
              go_upto_region 18 with fail
              refine wp_region_list ?_
              refine l_value rfl (run_move (v := .string ⟨p.toArray⟩) rfl rfl) ?_
              simp only [Act.put, List.setIfInBounds_toArray, List.set_cons_zero, List.set_cons_succ]
              refine l_value rfl (run_eqs (b := false) (t := ⟨zero16.toArray⟩) (decide_eq_false (fun h => hpz (by have := congrArg (fun z : ByteArray => z.data.toList) h; simpa using this))) rfl rfl rfl) ?_
              simp only [Act.put, List.setIfInBounds_toArray, List.set_cons_zero, List.set_cons_succ]
              refine wpList_nil ?_
              go_upto_region 20 with fail
              refine wp_region_list ?_
              refine l_value rfl (run_f49 0 rfl rfl (by decide)) ?_
              simp only [Act.put, List.setIfInBounds_toArray, List.set_cons_zero, List.set_cons_succ]
              refine l_value rfl (run_ld3 rfl rfl hDa.out.k0) ?_
              simp only [Act.put, List.setIfInBounds_toArray, List.set_cons_zero, List.set_cons_succ]
              refine l_value rfl (run_eq3 (b := true) (m := m.k) (n := 3) (by simp [h3]) rfl rfl rfl) ?_
              simp only [Act.put, List.setIfInBounds_toArray, List.set_cons_zero, List.set_cons_succ]
              refine l_value rfl (run_asgn (v := .bool true) rfl rfl) ?_
              simp only [Act.put, List.setIfInBounds_toArray, List.set_cons_zero, List.set_cons_succ]
              refine wpList_nil ?_
              go_upto_region 21 with fail
              refine wp_region_list ?_
              refine l_call (args := #[.pointer (some ⟨g + 1, 0, none⟩), .int .i64 1]) rfl cf38 rfl _ rfl #[] rfl rfl (hDa.out.cut [b] (t ++ R') 1 rfl rfl (by simp only [List.length_cons, List.length_append, ht]; omega)) (fun w11 hDb => ?_)
              simp only [Act.put, List.setIfInBounds_toArray, List.set_cons_zero, List.set_cons_succ]
              refine l_value rfl (run_idx0 (b := b) (r := []) rfl rfl) ?_
              simp only [Act.put, List.setIfInBounds_toArray, List.set_cons_zero, List.set_cons_succ]
              refine l_value rfl (run_cv53 (b := b) rfl rfl) ?_
              simp only [Act.put, List.setIfInBounds_toArray, List.set_cons_zero, List.set_cons_succ]
              rw [hb.out]
              refine l_value rfl (run_asgn (v := .int .i64 (xt.size : Int)) rfl rfl) ?_
              simp only [Act.put, List.setIfInBounds_toArray, List.set_cons_zero, List.set_cons_succ]
              refine wpList_nil ?_
              replace hDb := Lib.hid hDb
              go_upto_region 22 with fail
              refine wp_region_list ?_
              refine l_call (args := #[.pointer (some ⟨g + 1, 0, none⟩), .int .i64 222]) rfl cf38 rfl _ rfl #[] rfl rfl (hDb.out.cut t R' 222 rfl ht (by simp only [List.length_append, ht]; omega)) (fun w12 hDc => ?_)
              simp only [Act.put, List.setIfInBounds_toArray, List.set_cons_zero, List.set_cons_succ]
              refine l_value rfl (run_asgn (v := .string ⟨t.toArray⟩) rfl rfl) ?_
              simp only [Act.put, List.setIfInBounds_toArray, List.set_cons_zero, List.set_cons_succ]
              refine wpList_nil ?_
              replace hDc := Lib.hid hDc
              go_upto_region 23 with fail
              refine app_step w w12 g hDc.out (⟨p.toArray⟩, xt) t (by rw [ht]; exact hxt) hxt htk.out (by omega) (fun _ _ _ d _ h => by cases d <;> exact h) ?_
              intro W' sv' y73 y74 y75 y76 y77 y78 y79 y80 y81 y82 y83 hDn
              replace hDn := Lib.hid hDn
              clear hDc hDb hDa
              go_wp2
              exact ⟨⟨R', sv', iv, S ++ [(⟨p.toArray⟩, xt)], I, hDn.out, hRn.out, by omega⟩, by rw [hDn.out.restN, hDl.out.restN]; omega⟩
      · have hg0 := hg4 h3
        have hRf := hR.out
        have hgl : (tx m.g).length = 32 := by rw [tx_len, hg0]
        have hR3 : R.length ≤ 962 := by
          have := hel.out
          rw [hT.out] at this
          simp only [List.length_cons, List.length_append] at this
          omega
        replace hRf := Lib.hid hRf
        refine wp_region_list ?_
        refine l_value rfl (run_f49 0 rfl rfl (by decide)) ?_
        simp only [Act.put, List.setIfInBounds_toArray, List.set_cons_zero, List.set_cons_succ]
        refine l_value rfl (run_ld3 rfl rfl hDr.out.k0) ?_
        simp only [Act.put, List.setIfInBounds_toArray, List.set_cons_zero, List.set_cons_succ]
        refine l_value rfl (run_ne3 (b := true) (m := m.k) (n := 3) (by simp [h3]) rfl rfl rfl) ?_
        simp only [Act.put, List.setIfInBounds_toArray, List.set_cons_zero, List.set_cons_succ]
        refine wpList_nil ?_
        go_upto_region 15 with fail
        refine wp_region_list ?_
        refine l_call (args := #[.pointer (some ⟨g + 1, 0, none⟩), .int .i64 32]) rfl cf38 rfl _ rfl #[] rfl rfl (hDr.out.cut (tx m.g) R 32 rfl hgl (by rw [List.length_append]; omega)) (fun w9 hD9 => ?_)
        rw [ba_tx]
        simp only [Act.put, List.setIfInBounds_toArray, List.set_cons_zero, List.set_cons_succ]
        refine l_value rfl (run_f49 4 rfl rfl (by decide)) ?_
        simp only [Act.put, List.setIfInBounds_toArray, List.set_cons_zero, List.set_cons_succ]
        refine wpList_plain rfl fun _ hK => wp_skip (run_st9 rfl rfl rfl hD9.k4 (hD9.f5 4)) (hK _ _ ?_)
        clear hK
        simp only [Act.put, List.setIfInBounds_toArray, List.set_cons_zero, List.set_cons_succ]
        refine wpList_nil ?_
        replace hDr := hD9.setG m.g
        replace hDr := Lib.hid hDr
        obtain ⟨W9, eW9⟩ : ∃ W, W = w9.setCell ⟨g + 2, 4, none⟩ (.string m.g) := ⟨_, rfl⟩
        rw [← eW9] at hDr ⊢
        replace hD9 := Lib.hid hD9
        replace eW9 := Lib.hid eW9
        obtain ⟨wo, rfl⟩ : ∃ wo : World, wo = wr := ⟨_, rfl⟩
        clear hD8 hbc
        go_wp2
        go_loopw [8] (fun _ wr => ∃ r sv iv S I, Dc w g wr r m.k m.u m.q m.g sv iv S I ∧ Rst m r S I ∧ r.length ≤ 962) (fun _ wr => restN g wr)
        case atStart => exact ⟨R, nilV, nilV, [], [], hDr.out, hRf.out, hR3⟩
        case round =>
          obtain ⟨r, sv, iv, S, I, hDl, hRl, hrl⟩ := hrel
          replace hDl := Lib.hid hDl
          by_cases hr : r = []
          · subst hr
            obtain ⟨e1, e2⟩ := hRl.done
            subst e1 e2
            have hMl := dc_ml hDl.out hx rfl
            replace hRl := Lib.hid hRl
            replace hMl := Lib.hid hMl
            go_upto_region 16 with fail
            refine wp_region_list ?_
            refine l_value rfl (run_ld9 rfl rfl hDl.out.c4) ?_
            simp only [Act.put, List.setIfInBounds_toArray, List.set_cons_zero, List.set_cons_succ]
            refine l_value rfl (run_nes (b := false) (by rfl) rfl rfl rfl) ?_
            simp only [Act.put, List.setIfInBounds_toArray, List.set_cons_zero, List.set_cons_succ]
            refine wpList_nil ?_
            go_upto_region 26 with fail
            refine wp_region_list ?_
            refine l_value rfl (run_loadR rfl rfl (range_blk hDl.out.h5) Try.underlying49 rfl (by kernel_rfl)) ?_
            simp only [Act.put, List.setIfInBounds_toArray, List.set_cons_zero, List.set_cons_succ]
            refine l_call (args := #[.agg (mC m.k m.u m.q e0 m.g sv iv).toArray]) rfl cf22 rfl _ rfl #[] rfl rfl (hEn.out _ _ hMl.out) (fun w20 t20 => ?_)
            simp only [Act.put, List.setIfInBounds_toArray, List.set_cons_zero, List.set_cons_succ]
            refine l_value rfl (run_move (v := .tuple #[.string ⟨(bk :: T).toArray⟩, .int .i64 0]) rfl rfl) ?_
            simp only [Act.put, List.setIfInBounds_toArray, List.set_cons_zero, List.set_cons_succ]
            refine l_value rfl (run_ext (v := .string ⟨(bk :: T).toArray⟩) rfl rfl (by kernel_rfl)) ?_
            simp only [Act.put, List.setIfInBounds_toArray, List.set_cons_zero, List.set_cons_succ]
            refine l_value rfl (run_ext (v := .int .i64 0) rfl rfl (by kernel_rfl)) ?_
            simp only [Act.put, List.setIfInBounds_toArray, List.set_cons_zero, List.set_cons_succ]
            refine l_value rfl (run_asgn (v := .string ⟨(bk :: T).toArray⟩) rfl rfl) ?_
            simp only [Act.put, List.setIfInBounds_toArray, List.set_cons_zero, List.set_cons_succ]
            refine l_value rfl (run_asgn (v := .int .i64 0) rfl rfl) ?_
            simp only [Act.put, List.setIfInBounds_toArray, List.set_cons_zero, List.set_cons_succ]
            refine wpList_nil ?_
            go_upto_region 27 with fail
            refine wp_region_list ?_
            refine l_value rfl (run_move (v := .int .i64 0) rfl rfl) ?_
            simp only [Act.put, List.setIfInBounds_toArray, List.set_cons_zero, List.set_cons_succ]
            refine l_value rfl (run_ne23 (b := false) (by rfl) rfl rfl rfl) ?_
            simp only [Act.put, List.setIfInBounds_toArray, List.set_cons_zero, List.set_cons_succ]
            refine l_value rfl (run_move (v := .bool false) rfl rfl) ?_
            simp only [Act.put, List.setIfInBounds_toArray, List.set_cons_zero, List.set_cons_succ]
            refine BigFrame.wpList_want (by kernel_rfl) (fun _ hK => wp_value (run_move (v := .string ⟨(bk :: T).toArray⟩) rfl rfl) (hK _ _ ?_))
            clear hK
            simp only [Act.put, List.setIfInBounds_toArray, List.set_cons_zero, List.set_cons_succ]
            refine BigFrame.wpList_want (by kernel_rfl) (fun _ hK => wp_value (run_move (v := .string ⟨(bk :: T).toArray⟩) rfl rfl) (hK _ _ ?_))
            clear hK
            simp only [Act.put, List.setIfInBounds_toArray, List.set_cons_zero, List.set_cons_succ]
            refine BigFrame.wpList_want (by kernel_rfl) (fun _ hK => wp_value (run_nes (b := false) (by simp) rfl rfl rfl) (hK _ _ ?_))
            clear hK
            simp only [Act.put, List.setIfInBounds_toArray, List.set_cons_zero, List.set_cons_succ]
            refine l_value rfl (run_pickF (v := .bool false) rfl rfl rfl) ?_
            simp only [Act.put, List.setIfInBounds_toArray, List.set_cons_zero, List.set_cons_succ]
            refine wpList_nil ?_
            have hD20 := hDl.out.keep t20
            have hM20 := hMl.out.keep t20
            replace hD20 := Lib.hid hD20
            replace hM20 := Lib.hid hM20
            go_upto_region 29 with fail
            refine wp_region_list ?_
            refine l_value rfl (run_loadR rfl rfl (range_blk hD20.out.h5) Try.underlying49 rfl (by kernel_rfl)) ?_
            simp only [Act.put, List.setIfInBounds_toArray, List.set_cons_zero, List.set_cons_succ]
            refine wpList_plain rfl fun _ hK => wp_st49 (g := g) (C := zeroC) (D := mC m.k m.u m.q e0 m.g sv iv) rfl rfl rfl rfl rfl hD20.out.h2 (mC_one _ _ _ _ _ hD20.out.oS.isSl hD20.out.oI.isSl) (fun w21 h21 t21 => hK _ _ ?_)
            clear hK
            simp only [Act.put, List.setIfInBounds_toArray, List.set_cons_zero, List.set_cons_succ]
            refine l_value rfl (run_asgn (v := .int .i64 0) rfl rfl) ?_
            simp only [Act.put, List.setIfInBounds_toArray, List.set_cons_zero, List.set_cons_succ]
            refine wpList_nil ?_
            have hD21 := hD20.out.oS.keep t21 (fun b hb q => by have := hD20.out.oS.2 b hb; omega)
            have hI21 := hD20.out.oI.keep t21 (fun b hb q => by have := hD20.out.oI.2 b hb; omega)
            have hM21 : MlA w21 (.agg (mC m.k m.u m.q e0 m.g sv iv).toArray) m := by
              obtain ⟨p, c, e1, h1⟩ := hD21.sl
              obtain ⟨p2, c2, e2, h2⟩ := hI21.sl
              refine ⟨p, c, p2, c2, ?_, h1, h2⟩
              rw [e1, e2]
              unfold mC mlCs
              rw [hx]
            have hT21 : Touch Nothing w w21 := hD20.out.t.trans t21 (fun i hi q => by have := eg.out; omega)
            replace hM21 := Lib.hid hM21
            replace hT21 := Lib.hid hT21
            replace h21 := Lib.hid h21
            clear hD21 hI21 t21 hM20 hD20 t20 hMl
            go_wp2
            exact bodyPost_ret (v := .tuple #[.agg (mC m.k m.u m.q e0 m.g sv iv).toArray, .int .i64 0]) (ret_cell2 rfl rfl rfl h21.out Try.underlying49 rfl (by kernel_rfl)) rfl ⟨_, rfl, hM21.out, hT21.out⟩
          · obtain ⟨p, R', hp, hre, hpx⟩ := hRl.id hr h3
            have hIl := hRl.lens.2
            have hrne : (⟨r.toArray⟩ : ByteArray) ≠ ⟨#[]⟩ := fun h => hr (by have := congrArg (fun z : ByteArray => z.data.toList) h; simpa using this)
            have hmz : r.length = 16 + R'.length := by rw [hre]; simp only [List.length_append, hp]
            replace hRl := Lib.hid hRl
            replace hre := Lib.hid hre
            replace hrne := Lib.hid hrne
            go_upto_region 16 with fail
            refine wp_region_list ?_
            refine l_value rfl (run_ld9 rfl rfl hDl.out.c4) ?_
            simp only [Act.put, List.setIfInBounds_toArray, List.set_cons_zero, List.set_cons_succ]
            refine l_value rfl (run_nes (b := true) (by rw [decide_eq_false hrne.out]; rfl) rfl rfl rfl) ?_
            simp only [Act.put, List.setIfInBounds_toArray, List.set_cons_zero, List.set_cons_succ]
            refine wpList_nil ?_
            go_upto_region 17 with fail
            refine wp_region_list ?_
            refine l_call (args := #[.pointer (some ⟨g + 1, 0, none⟩), .int .i64 16]) rfl cf38 rfl _ rfl #[] rfl rfl (hDl.out.cut p R' 16 hre.out hp (by omega)) (fun w10 hDa => ?_)
            simp only [Act.put, List.setIfInBounds_toArray, List.set_cons_zero, List.set_cons_succ]
            refine l_value rfl (run_asgn (v := .string ⟨p.toArray⟩) rfl rfl) ?_
            simp only [Act.put, List.setIfInBounds_toArray, List.set_cons_zero, List.set_cons_succ]
            refine wpList_nil ?_
            replace hDa := Lib.hid hDa
            rcases hpx with ⟨hpz, hRn⟩ | ⟨hpz, hRn⟩
            · replace hRn := Lib.hid hRn
              go_upto_region 18 with fail
              refine wp_region_list ?_
              refine l_value rfl (run_move (v := .string ⟨p.toArray⟩) rfl rfl) ?_
              simp only [Act.put, List.setIfInBounds_toArray, List.set_cons_zero, List.set_cons_succ]
              refine l_value rfl (run_eqs (b := true) (t := ⟨zero16.toArray⟩) (decide_eq_true (by rw [hpz])) rfl rfl rfl) ?_
              simp only [Act.put, List.setIfInBounds_toArray, List.set_cons_zero, List.set_cons_succ]
              refine wpList_nil ?_
              go_upto_region 20 with fail
              refine wp_region_list ?_
              refine l_value rfl (run_f49 0 rfl rfl (by decide)) ?_
              simp only [Act.put, List.setIfInBounds_toArray, List.set_cons_zero, List.set_cons_succ]
              refine l_value rfl (run_ld3 rfl rfl hDa.out.k0) ?_
              simp only [Act.put, List.setIfInBounds_toArray, List.set_cons_zero, List.set_cons_succ]
              refine l_value rfl (run_eq3 (b := false) (m := m.k) (n := 3) (by simp [h3]) rfl rfl rfl) ?_
              simp only [Act.put, List.setIfInBounds_toArray, List.set_cons_zero, List.set_cons_succ]
              refine l_value rfl (run_asgn (v := .bool false) rfl rfl) ?_
              simp only [Act.put, List.setIfInBounds_toArray, List.set_cons_zero, List.set_cons_succ]
              refine wpList_nil ?_
              go_upto_region 24 with fail
              refine wp_region_list ?_
              refine l_value rfl (run_move (v := .string ⟨#[]⟩) rfl rfl) ?_
              simp only [Act.put, List.setIfInBounds_toArray, List.set_cons_zero, List.set_cons_succ]
              refine l_value rfl (run_nes (b := false) (by simp) rfl rfl rfl) ?_
              simp only [Act.put, List.setIfInBounds_toArray, List.set_cons_zero, List.set_cons_succ]
              refine l_value rfl (run_asgn (v := .bool false) rfl rfl) ?_
              simp only [Act.put, List.setIfInBounds_toArray, List.set_cons_zero, List.set_cons_succ]
              refine wpList_nil ?_
              go_wp2
              exact ⟨⟨R', sv, iv, S, I, hDa.out, hRn.out, by omega⟩, by rw [hDa.out.restN, hDl.out.restN]; omega⟩
            · replace hRn := Lib.hid hRn
              go_upto_region 18 with fail
              refine wp_region_list ?_
              refine l_value rfl (run_move (v := .string ⟨p.toArray⟩) rfl rfl) ?_
              simp only [Act.put, List.setIfInBounds_toArray, List.set_cons_zero, List.set_cons_succ]
              refine l_value rfl (run_eqs (b := false) (t := ⟨zero16.toArray⟩) (decide_eq_false (fun h => hpz (by have := congrArg (fun z : ByteArray => z.data.toList) h; simpa using this))) rfl rfl rfl) ?_
              simp only [Act.put, List.setIfInBounds_toArray, List.set_cons_zero, List.set_cons_succ]
              refine wpList_nil ?_
              go_upto_region 20 with fail
              refine wp_region_list ?_
              refine l_value rfl (run_f49 0 rfl rfl (by decide)) ?_
              simp only [Act.put, List.setIfInBounds_toArray, List.set_cons_zero, List.set_cons_succ]
              refine l_value rfl (run_ld3 rfl rfl hDa.out.k0) ?_
              simp only [Act.put, List.setIfInBounds_toArray, List.set_cons_zero, List.set_cons_succ]
              refine l_value rfl (run_eq3 (b := false) (m := m.k) (n := 3) (by simp [h3]) rfl rfl rfl) ?_
              simp only [Act.put, List.setIfInBounds_toArray, List.set_cons_zero, List.set_cons_succ]
              refine l_value rfl (run_asgn (v := .bool false) rfl rfl) ?_
              simp only [Act.put, List.setIfInBounds_toArray, List.set_cons_zero, List.set_cons_succ]
              refine wpList_nil ?_
              go_upto_region 24 with fail
              refine wp_region_list ?_
              have hpne : (⟨p.toArray⟩ : ByteArray) ≠ ⟨#[]⟩ := fun h => by
                have e : p = [] := by have := congrArg (fun z : ByteArray => z.data.toList) h; simpa using this
                rw [e] at hp
                cases hp
              replace hpne := Lib.hid hpne
              refine l_value rfl (run_move (v := .string ⟨p.toArray⟩) rfl rfl) ?_
              simp only [Act.put, List.setIfInBounds_toArray, List.set_cons_zero, List.set_cons_succ]
              refine l_value rfl (run_nes (b := true) (by rw [decide_eq_false hpne.out]; rfl) rfl rfl rfl) ?_
              simp only [Act.put, List.setIfInBounds_toArray, List.set_cons_zero, List.set_cons_succ]
              refine l_value rfl (run_asgn (v := .bool true) rfl rfl) ?_
              simp only [Act.put, List.setIfInBounds_toArray, List.set_cons_zero, List.set_cons_succ]
              refine wpList_nil ?_
              go_upto_region 25 with fail
              refine wp_region_list ?_
              refine l_value rfl (run_f49 6 rfl rfl (by decide)) ?_
              simp only [Act.put, List.setIfInBounds_toArray, List.set_cons_zero, List.set_cons_succ]
              refine l_value rfl (run_ld22 rfl rfl hDa.out.k6) ?_
              simp only [Act.put, List.setIfInBounds_toArray, List.set_cons_zero, List.set_cons_succ]
              refine l_value rfl (run_move (v := .string ⟨p.toArray⟩) rfl rfl) ?_
              simp only [Act.put, List.setIfInBounds_toArray, List.set_cons_zero, List.set_cons_succ]
              refine l_value rfl (run_bs221 (y := ⟨p.toArray⟩) rfl rfl) ?_
              simp only [Act.put, List.setIfInBounds_toArray, List.set_cons_zero, List.set_cons_succ]
              have hB := hDa.out.keep ((Touch.refl Nothing w10).alloc (.cells #[.string ⟨p.toArray⟩] 9))
              have hgn := heap_alloc_new w10 (.cells #[.string ⟨p.toArray⟩] 9)
              obtain ⟨w2, e2⟩ : ∃ v, v = w10.alloc (.cells #[.string ⟨p.toArray⟩] 9) := ⟨_, rfl⟩
              obtain ⟨g2, eg2⟩ : ∃ v, v = w10.heap.size := ⟨_, rfl⟩
              rw [← e2, ← eg2] at hgn
              rw [← e2] at hB
              rw [← e2, ← eg2]
              refine wpList_plain rfl (fun _ hK => wp_appT (B := g + 3) (v := iv) (L := I) (y := ⟨p.toArray⟩) (g := g2) _ _ rfl rfl hB.oI rfl hgn hB.sz (by have := hmf.out.2.2.2.2.2.1; omega) (fun v' w' ho ht => hK _ _ ?_))
              clear hK
              simp only [Act.put, List.setIfInBounds_toArray, List.set_cons_zero, List.set_cons_succ]
              refine l_value rfl (run_f49 6 rfl rfl (by decide)) ?_
              simp only [Act.put, List.setIfInBounds_toArray, List.set_cons_zero, List.set_cons_succ]
              have h5 : w'.heap[g + 2]? = some (.cells (mC m.k m.u m.q e0 m.g sv iv).toArray 49 (0, 0)) := ht.heap hB.h5 (fun q => by have := hB.oI.2 _ q; omega)
              refine wpList_plain rfl fun _ hK => wp_skip (run_st22 (v2 := v') rfl rfl rfl ho.isSl (cell_at h5 6) (frz_blk h5 6)) (hK _ _ ?_)
              clear hK
              simp only [Act.put, List.setIfInBounds_toArray, List.set_cons_zero, List.set_cons_succ]
              refine wpList_nil ?_
              have hDn := hB.setI ht ho
              obtain ⟨W3, e3⟩ : ∃ v, v = w'.setCell ⟨g + 2, 6, none⟩ v' := ⟨_, rfl⟩
              rw [← e3] at hDn ⊢
              replace hDn := Lib.hid hDn
              replace e3 := Lib.hid e3
              replace e2 := Lib.hid e2
              replace eg2 := Lib.hid eg2
              clear h5 ht ho hgn hB
              go_wp2
              exact ⟨⟨R', sv, v', S, I ++ [⟨p.toArray⟩], hDn.out, hRn.out, by omega⟩, by rw [hDn.out.restN, hDl.out.restN]; omega⟩

end Go.Proofs.Ytoegkcjclgmnbaa
