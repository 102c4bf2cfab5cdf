/-
  Layer 2: Chain, walked.
-/
import Derived.Test.YtfnmnmjpcamkiaaCl5
import Derived.Deep.AppendSrc
namespace Go.Proofs.Ytfnmnmjpcamkiaa
open Go.RowKit
set_option linter.unusedVariables false
set_option linter.unusedSimpArgs false

theorem src_strs {w : World} {a : Option Addr} {c : Nat} {ts : List ByteArray} (h : StrSl w a c ts) : Go.Src Try.prog 1 29 (.slice a ts.length c) ts.length (ts.map Value.string) w := by
  have h1 : ∀ u ∈ ts.map Value.string, u.oneCell' = true := by
    intro u hu
    obtain ⟨x, _, rfl⟩ := List.mem_map.1 hu
    rfl
  cases a with
  | none =>
    have : ts = [] := by
      match ts, h with
      | [], _ => rfl
      | t :: r, h => obtain ⟨_, _, e, _⟩ := h.2 0 (by simp); cases e
    subst this
    exact Go.Src.ofNil w Try.underlying29 c
  | some a =>
    refine Go.Src.ofSlice w Try.underlying29 a _ c _ (by simp) (fun j u hu => ?_) h1
    rw [List.getElem?_map] at hu
    cases hj : ts[j]? with
    | none => rw [hj] at hu; simp at hu
    | some x =>
      rw [hj] at hu
      obtain ⟨hlt, hx⟩ := List.getElem?_eq_some_iff.1 hj
      obtain ⟨g, o, e, hc⟩ := h.2 j hlt
      obtain rfl : a = ⟨g, o, none⟩ := by simpa using e
      rw [Addr.add_mid, hc, hx]
      simpa using hu

theorem app_one (w : World) (g : Nat) (u : ByteArray) (a : Option Addr) (c : Nat) (ts : List ByteArray) (h : StrSl w a c ts) (hn : ts.length * 16 ≤ 140737488351232) (hg : w.heap[g]? = some (.cells #[.string u] 9)) :
    ∃ (p : Option Addr) (cap : Nat) (w2 : World), (Builtin.append_ #[29, 29] 29 #[.slice (some ⟨g, 0, none⟩) 1 1, .slice a ts.length c]).run Try.prog w = .ok (.slice p (1 + ts.length) cap) w2 ∧ Touch Nothing w w2 ∧ StrSl w2 p cap (u :: ts) := by
  have hs := src_strs h
  have hi : (Try.prog.info? 9).map (fun i => (i.zero, i.size, i.bytes)) = some (some (.string ⟨#[]⟩), 1, 16) := by kernel_rfl
  cases hq : Try.prog.info? 9 with
  | none => simp [hq] at hi
  | some i =>
    rw [hq] at hi
    simp only [Option.map_some, Option.some.injEq, Prod.mk.injEq] at hi
    obtain ⟨hz, hsz, hby⟩ := hi
    by_cases h0 : ts = []
    · subst h0
      have hr := run_append_room_src (P := Try.prog) w 29 29 29 9 i Try.underlying29 hq g 0 1 1 (.slice a 0 c) 0 [] (by rw [hsz]; exact hs) (by omega) (fun j hj => by simp at hj) (fun j hj => by simp at hj)
      refine ⟨_, _, _, hr, Touch.refl _ _, by simp, fun i hi => ⟨g, 0, rfl, ?_⟩⟩
      obtain rfl : i = 0 := by simpa using hi
      exact cell_blk hg 0
    · have hpos : 0 < ts.length := List.length_pos_iff.2 h0
      have hold : (Builtin.firstCells i.size 1 (.slice (some ⟨g, 0, none⟩) 1 1)).run Try.prog w.drew = .ok (#[Value.string u]) w.drew := by
        rw [hsz]
        have := run_firstCells_some (P := Try.prog) w.drew 1 1 ⟨g, 0, none⟩ 1 1 [Value.string u] rfl (fun j v hv => by
          rw [Addr.add_mid, Nat.zero_add]
          match j with
          | 0 => have := cell_blk hg 0; simp at hv; rw [← hv]; exact this
          | j + 1 => simp at hv)
        exact this
      have hr := run_append_grow_src (P := Try.prog) w 29 29 29 9 i _ Try.underlying29 hq hz (some ⟨g, 0, none⟩) 1 1 [Value.string u] hold (.slice a ts.length c) ts.length (ts.map Value.string) (by rw [hsz]; exact hs) (by omega) (by omega) (growslice_fits (by omega) (by rw [hby]; omega))
      have hn2 := heap_alloc_new w.drew (.cells (([Value.string u] ++ ts.map Value.string).toArray ++ Builtin.zeroCells (Value.string ⟨#[]⟩).cells (grownCap w (1 + ts.length) 1 9 - (1 + ts.length))) 9)
      have hge := grownCap_ge w (1 + ts.length) 1 9
      refine ⟨_, _, _, hr, (Touch.refl Nothing w).drew.alloc _, by simp only [List.length_cons]; omega, fun j hj => ⟨w.heap.size, 0, rfl, ?_⟩⟩
      rw [Nat.zero_add]
      refine (cell_blk hn2 j).trans ?_
      have hj2 : j < ([Value.string u] ++ ts.map Value.string).length := by simpa using hj
      rw [Array.getElem?_append_left (by simpa using hj2), List.getElem?_toArray, show [Value.string u] ++ ts.map Value.string = (u :: ts).map Value.string from rfl, List.getElem?_map, List.getElem?_eq_getElem hj]
      rfl

theorem wpList_append_eq {P : Program} {ops : Array Oper} {rest : List Oper} {o : Oper} {a : Act} {w : World} {Q : Exit → Act → World → Prop} (hgd : o.guard = none) (s x : Operand) (t : TypeId)
    (ho : o.op = .call { callee := .builtin .append, args := #[s, x], argTypes := #[t, t] }) (v1 v2 : Value) (hs : a.eval s = v1) (hx : a.eval x = v2) (r : Value) (w2 : World)
    (hrun : (Builtin.append_ #[t, t] o.type #[v1, v2]).run P w = .ok r w2) (h : wpList P ops Q rest (a.put o.dst r) w2) : wpList P ops Q (o :: rest) a w :=
  wpList_plain hgd fun _ hK => by
    unfold Oper.wp execOp
    simp only [ho, resolve, invoke, builtin, Sem.run_bind, Sem.run_pure, Result.andThen_ok, List.map_toArray, List.map_cons, List.map_nil, hs, hx, hrun]
    exact hK _ _ h

/-- One scalar after the other. -/
def chainG (u : ByteArray) : List ByteArray → Res
  | [] => (u, 0)
  | k :: r => if (sharedR k u).2 = 0 then chainG (sharedR k u).1 r else (noB, (sharedR k u).2)

def allB (xs : List ByteArray) : Bool := xs.all fun x => x.size == 32

def chainR (u : ByteArray) (ks : List ByteArray) : Res :=
  if allB (u :: ks) = true then (if 16 < ks.length then (noB, 2) else chainG u ks) else (noB, 3)

theorem chainG_drop (u : ByteArray) (ks : List ByteArray) (k : Nat) (h : k < ks.length) : chainG u (ks.drop k) = if (sharedR ks[k] u).2 = 0 then chainG (sharedR ks[k] u).1 (ks.drop (k + 1)) else (noB, (sharedR ks[k] u).2) := by
  rw [List.drop_eq_getElem_cons h]
  rfl

theorem allB_no {xs : List ByteArray} {k : Nat} (h : k < xs.length) (hb : ¬ xs[k].size = 32) : allB xs = false := by
  unfold allB
  rw [List.all_eq_false]
  exact ⟨xs[k], List.getElem_mem h, by simpa using hb⟩

theorem allB_yes {xs : List ByteArray} (h : ∀ j (hj : j < xs.length), xs[j].size = 32) : allB xs = true := by
  unfold allB
  rw [List.all_eq_true]
  intro x hx
  obtain ⟨j, hj, rfl⟩ := List.mem_iff_getElem.1 hx
  simpa using h j hj

set_option maxRecDepth 100000 in
set_option maxHeartbeats 1600000 in
theorem Chain_any (w : World) (u : ByteArray) (a : Option Addr) (c : Nat) (ts : List ByteArray) (h : StrSl w a c ts) (hn : ts.length * 16 ≤ 140737488351232) :
    Calls Try.prog 49 #[.string u, .slice a ts.length c] w fun r w' => r = .returned (.tuple #[.string (chainR u ts).1, .int .i64 (chainR u ts).2]) ∧ Touch Nothing w w' := by
  obtain ⟨res, hres⟩ : ∃ x, x = chainR u ts := ⟨_, rfl⟩
  rw [← hres]
  unfold chainR at hres
  obtain ⟨p, cap, w2, happ, ht2, hxs⟩ := app_one (w.alloc (.cells #[.string u] 9)) w.heap.size u a c ts (h.keep ((Touch.refl Nothing w).alloc _) (fun _ _ q => q)) hn (heap_alloc_new _ _)
  have hT2 : Touch Nothing w w2 := ((Touch.refl Nothing w).alloc _).trans' ht2
  have hS2 := Lib.hid (h.keep hT2 (fun _ _ q => q))
  obtain ⟨xs, hxe⟩ : ∃ xs, xs = u :: ts := ⟨_, rfl⟩
  have hxl : xs.length = 1 + ts.length := by rw [hxe, List.length_cons]; omega
  rw [← hxe] at hxs hres
  replace hxs := Lib.hid hxs
  replace hres := Lib.hid hres
  replace hT2 := Lib.hid hT2
  replace happ := Lib.hid happ
  clear hxe h ht2
  go_enter Try.func49, Try.ntmps49
  go_wp2_with (first | refine wpList_append_eq (o := ⟨some 15, _, _, _, _, _⟩) rfl _ _ 29 rfl _ _ rfl rfl _ w2 happ.out ?_)
  go_loopw [17] (fun iv wr => ∃ k : Nat, k ≤ 1 + ts.length ∧ iv = .int .i64 (k : Int) ∧ wr = w2 ∧ Hid (∀ j (hj : j < xs.length), j < k → xs[j].size = 32)) (fun iv _ => 1 + ts.length - (intOf iv).toNat)
  case atStart => exact ⟨0, Nat.zero_le _, rfl, rfl, Lib.hid fun j hj q => by omega⟩
  case round =>
    obtain ⟨k, hk, rfl, rfl, hD⟩ := hrel
    by_cases hlt : k < 1 + ts.length
    · obtain ⟨g, o, ha, hc⟩ := hxs.out.2 k (by omega)
      subst ha
      have hk0 : (0 : Int) ≤ (k : Int) := by omega
      have hlt2 : (k : Int) < 1 + (ts.length : Int) := by omega
      obtain ⟨s, hs⟩ : ∃ s, s = xs[k]'(by omega) := ⟨_, rfl⟩
      rw [← hs] at hc
      by_cases hz : s.size = 32
      · have e1 : ((s.size : Int) != 32) = false := by simp [hz]
        have e2 : (s.size : Int) = 32 := by omega
        have hD2 : Hid (∀ j (hj : j < xs.length), j < k + 1 → xs[j].size = 32) := Lib.hid fun j hj q => by
          by_cases e : j = k
          · subst e; rw [← hs]; exact hz
          · exact hD.out j hj (by omega)
        replace hs := Lib.hid hs
        clear hz
        go_wp2
        exact ⟨⟨k + 1, by omega, by simp, by first | rfl | trivial, hD2⟩, by simp [intOf]; omega⟩
      · have e1 : ((s.size : Int) != 32) = true := by simp; omega
        have e2 : ¬ (s.size : Int) = 32 := by omega
        have hno := allB_no (xs := xs) (k := k) (by omega) (by rw [← hs]; exact hz)
        have hfin : res = (noB, 3) := by rw [hres.out, hno]; rfl
        replace hs := Lib.hid hs
        replace hno := Lib.hid hno
        clear hz
        subst hfin
        go_wp2
        go_ret2
        exact ⟨rfl, hT2.out⟩
    · obtain rfl : k = 1 + ts.length := by omega
      have hyes : allB xs = true := allB_yes fun j hj => hD.out j hj (by omega)
      have hr2 : res = if 16 < ts.length then (noB, 2) else chainG u ts := by rw [hres.out, if_pos hyes]
      replace hyes := Lib.hid hyes
      by_cases h16 : 16 < ts.length
      · rw [if_pos h16] at hr2
        subst hr2
        have h16i : (16 : Int) < (ts.length : Int) := by omega
        go_wp2
        go_ret2
        exact ⟨rfl, hT2.out⟩
      · rw [if_neg h16] at hr2
        have h16i : ¬ (16 : Int) < (ts.length : Int) := by omega
        replace hr2 := Lib.hid hr2
        go_wp2
        go_loopw [0, 30] (fun uv iv wr => ∃ (k : Nat) (cur : ByteArray), k ≤ ts.length ∧ uv = .string cur ∧ iv = .int .i64 (k : Int) ∧ Hid (chainG cur (ts.drop k) = res) ∧ Touch Nothing w wr ∧ Hid (StrSl wr a c ts)) (fun _ iv _ => ts.length - (intOf iv).toNat)
        case atStart => exact ⟨0, u, Nat.zero_le _, rfl, rfl, Lib.hid hr2.out.symm, hT2.out, hS2⟩
        case round =>
          obtain ⟨k, cur, hk2, rfl, rfl, hG, ht, hS⟩ := hrel
          by_cases hlt : k < ts.length
          · obtain ⟨g, o, ha, hc⟩ := hS.out.2 k hlt
            subst ha
            have hk0 : (0 : Int) ≤ (k : Int) := by omega
            have hG2 := chainG_drop cur ts k hlt
            rw [hG.out] at hG2
            obtain ⟨s, hs⟩ : ∃ s, s = ts[k] := ⟨_, rfl⟩
            rw [← hs] at hc hG2
            have hSh := fun w2 => Shared_lay w2 s cur
            obtain ⟨⟨y, e⟩, hy⟩ : ∃ y, y = sharedR s cur := ⟨_, rfl⟩
            rw [← hy] at hG2 hSh
            simp only [] at hG2 hSh
            replace hs := Lib.hid hs
            replace hSh := Lib.hid hSh
            replace ht := Lib.hid ht
            clear hy
            by_cases he : e = 0
            · subst he
              rw [if_pos rfl] at hG2
              replace hG2 := Lib.hid hG2
              go_wp2_with (first | (go_at_call 44; refine (hSh.out _).mono ?_; rintro r w3 ⟨rfl, ht3⟩))
              exact ⟨⟨k + 1, y, by omega, rfl, by simp, Lib.hid hG2.out.symm, ht.out.trans' ht3, Lib.hid (hS.out.keep ht3 (fun _ _ q => q))⟩, by simp [intOf]; omega⟩
            · rw [if_neg he] at hG2
              have e1 : (e == 0) = false := by simp [he]
              have e2 : (e != 0) = true := by simp [he]
              replace hG2 := Lib.hid hG2
              go_wp2_with (first | (go_at_call 44; refine (hSh.out _).mono ?_; rintro r w3 ⟨rfl, ht3⟩))
              go_ret2
              exact ⟨by rw [hG2.out]; rfl, ht.out.trans' ht3⟩
          · obtain rfl : k = ts.length := by omega
            have hG3 : res = (cur, 0) := by rw [← hG.out, List.drop_length]; rfl
            replace hG3 := Lib.hid hG3
            go_wp2
            go_ret2
            exact ⟨by rw [hG3.out]; rfl, ht⟩

end Go.Proofs.Ytfnmnmjpcamkiaa
