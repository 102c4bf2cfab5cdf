/-
  Layer 27: Decode of the program, walked.
-/
import Derived.Test.YtkoplgpobagfoaaVd
namespace Go.Proofs.Ytkoplgpobagfoaa
open Go.RowKit
set_option linter.unusedVariables false
set_option linter.unusedSimpArgs false

def frAt (s : ByteArray) (i : Nat) : Fr := ⟨wordAt s (16 * i), wordAt s (16 * i + 4), wordAt s (16 * i + 8), wordAt s (16 * i + 12)⟩
def framesN (s : ByteArray) (n : Nat) : List Fr := (List.range n).map (frAt s)
theorem framesN_len (s : ByteArray) (n : Nat) : (framesN s n).length = n := by simp [framesN]
theorem framesN_succ (s : ByteArray) (n : Nat) : framesN s (n + 1) = framesN s n ++ [frAt s n] := by simp [framesN, List.range_succ]

/-- What any bytes are as a view. -/
def decR (s : ByteArray) : List Fr × Int :=
  if s.size % 16 ≠ 0 then ([], 3) else if (chkR (framesN s (s.size / 16))).2 ≠ 0 then ([], (chkR (framesN s (s.size / 16))).2) else (framesN s (s.size / 16), 0)

/-- What Decode hands back: a slice that reads as these frames, and an error's number. -/
def DecPost (w : World) (x : List Fr × Int) (r : Ending) (w' : World) : Prop :=
  ∃ p c, r = .returned (.tuple #[.slice p x.1.length c, .int .i64 x.2]) ∧ FrSl w' p c x.1 ∧ Touch Nothing w w'

section
variable {a : Act} {w : World} {op : Oper}
theorem run_tail {x : Operand} {s : ByteArray} {z : Int} (n : Nat) (ho : op.op = .slice 9 x (some (.const (.int .i64 z))) none none) (hz : z = (n : Int)) (hx : a.eval x = .string s) (hn : n ≤ s.size) :
    (execOp a.eval op).run Try.prog w = .ok (.value (.string (s.extract n s.size))) w := by
  subst hz
  have h : (Instr.sliceAt 9 (.string s) (some (.int .i64 (n : Int))) none none).run Try.prog w = .ok (.string (s.extract n s.size)) w := by
    rw [run_sliceAt_string w 9 _ _ _ _ Try.underlying9, run_slice_string_l w 9 s Try.underlying9 .i64 (n : Int) (by omega) (by omega)]
    rfl
  have e : a.eval (.const (.int .i64 (n : Int))) = .int .i64 (n : Int) := rfl
  unfold execOp
  simp only [ho, hx, Option.map_some, Option.map_none, e, Sem.run_bind, h, Result.andThen_ok, Sem.run_pure]
theorem run_build50 {x y z u : Operand} {f : Fr} (ho : op.op = .build 50 #[(0, x), (1, y), (2, z), (3, u)]) (hx : a.eval x = .int .i64 f.a) (hy : a.eval y = .int .i64 f.f) (hz : a.eval z = .int .i64 f.t) (hu : a.eval u = .int .i64 f.l) :
    (execOp a.eval op).run Try.prog w = .ok (.value (frV f)) w := by
  obtain ⟨fa, ff, ft, fl⟩ := f
  have h : (Instr.build 50 #[(0, .int .i64 fa), (1, .int .i64 ff), (2, .int .i64 ft), (3, .int .i64 fl)]).run Try.prog w = .ok (frV ⟨fa, ff, ft, fl⟩) w := by kernel_rfl
  unfold execOp
  simp only [ho, List.map_toArray, List.map_cons, List.map_nil, hx, hy, hz, hu, Sem.run_bind, h, Result.andThen_ok, Sem.run_pure]
theorem run_bs22 {x : Operand} {f : Fr} (ho : op.op = .buildSlice 22 1 #[(0, x)]) (hx : a.eval x = frV f) :
    (execOp a.eval op).run Try.prog w = .ok (.value (.slice (some ⟨w.heap.size, 0, none⟩) 1 1)) (w.alloc (.cells (frCs f).toArray 50)) := by
  obtain ⟨fa, ff, ft, fl⟩ := f
  have h : (Instr.buildSlice 22 1 #[(0, frV ⟨fa, ff, ft, fl⟩)]).run Try.prog w = .ok (.slice (some ⟨w.heap.size, 0, none⟩) 1 1) (w.alloc (.cells (frCs ⟨fa, ff, ft, fl⟩).toArray 50)) := by kernel_rfl
  unfold execOp
  simp only [ho, List.map_toArray, List.map_cons, List.map_nil, hx, Sem.run_bind, h, Result.andThen_ok, Sem.run_pure]
end

theorem tl_no {s : ByteArray} (h : 16 ≤ s.size) : s.toList.isEmpty = false := by
  rw [ByteArray.toList_eq]
  have : s.data.toList.length = s.size := Array.length_toList
  cases hl : s.data.toList with
  | nil => rw [hl] at this; simp at this; omega
  | cons a r => rfl
theorem tl_yes {s : ByteArray} (h : s.size = 0) : s.toList.isEmpty = true := by
  rw [ByteArray.toList_eq]
  have : s.data.toList.length = s.size := Array.length_toList
  cases hl : s.data.toList with
  | nil => rfl
  | cons a r => rw [hl] at this; simp at this; omega

theorem cf39 (args : Array Value) (w : World) : (callFunc 39 args).run Try.prog w = .ok (.enter 39 args) w := by kernel_rfl

set_option maxRecDepth 100000 in
set_option maxHeartbeats 3200000 in
theorem Decode_any (w : World) (s : ByteArray) (hs : s.size ≤ 1048576) : Calls Try.prog 18 #[.string s] w (DecPost w (decR s)) := by
  obtain ⟨res, hres⟩ : ∃ x, x = decR s := ⟨_, rfl⟩
  rw [← hres]
  unfold decR at hres
  obtain ⟨n, hn⟩ : ∃ n, n = s.size / 16 := ⟨_, rfl⟩
  rw [← hn] at hres
  by_cases hm : s.size % 16 = 0
  · have hsz : s.size = 16 * n := by omega
    rw [if_neg (by omega)] at hres
    have e1 : ((s.size : Int).tmod 16) = 0 := by rw [Int.tmod_eq_emod_of_nonneg (by omega)]; omega
    have e2 : ((s.size : Int) % 16) = 0 := by omega
    replace hres := Lib.hid hres
    replace hn := Lib.hid hn
    go_enter Try.func18, Try.ntmps18
    go_wp2
    go_loopw [0, 4] (fun uv rv wr => ∃ (k : Nat) (cur : ByteArray) (v : Value), k ≤ n ∧ uv = .string cur ∧ rv = v ∧ Hid (cur.size = 16 * (n - k) ∧ ∀ j, wordAt cur j = wordAt s (16 * k + j)) ∧ Hid (OwnF w wr v (framesN s k)) ∧ Touch Nothing w wr) (fun uv _ _ => match uv with | .string c => c.size | _ => 0)
    case atStart => exact ⟨0, s, _, Nat.zero_le _, rfl, rfl, Lib.hid ⟨by omega, fun j => by rw [Nat.mul_zero, Nat.zero_add]⟩, Lib.hid (OwnF.nil _ _), Touch.refl _ _⟩
    case round =>
      obtain ⟨k, cur, v, hk, rfl, rfl, hc, hO, ht⟩ := hrel
      by_cases hlt : k < n
      · have hcs : 16 ≤ cur.size := by have := hc.out.1; omega
        have hne := tl_no hcs
        have k0 := word_any (s := cur)
        have q0 : wordAt cur 0 = (frAt s k).a := hc.out.2 0
        have q1 : wordAt (cur.extract 4 cur.size) 0 = (frAt s k).f := by rw [wordAt_ext]; exact hc.out.2 4
        have q2 : wordAt (cur.extract 8 cur.size) 0 = (frAt s k).t := by rw [wordAt_ext]; exact hc.out.2 8
        have q3 : wordAt (cur.extract 12 cur.size) 0 = (frAt s k).l := by rw [wordAt_ext]; exact hc.out.2 12
        have hW0 := fun w => word_any w cur (by omega)
        have hW1 := fun w => word_any w (cur.extract 4 cur.size) (by rw [ByteArray.size_extract]; omega)
        have hW2 := fun w => word_any w (cur.extract 8 cur.size) (by rw [ByteArray.size_extract]; omega)
        have hW3 := fun w => word_any w (cur.extract 12 cur.size) (by rw [ByteArray.size_extract]; omega)
        rw [q0] at hW0
        rw [q1] at hW1
        rw [q2] at hW2
        rw [q3] at hW3
        obtain ⟨f, hf⟩ : ∃ f, f = frAt s k := ⟨_, rfl⟩
        rw [← hf] at hW0 hW1 hW2 hW3
        replace hO := hO.out
        clear q0 q1 q2 q3 k0
        have hnl : ((framesN s k).length + 1) * 32 ≤ 140737488355328 := by rw [framesN_len]; omega
        go_upto_region 6 with fail
        refine wp_region_held_drew (S := fun _ => True) (by kernel_rfl) trivial (fun _ => ?_)
        replace ht := ht.drew
        replace hO : OwnF w wr.drew _ (framesN s k) := hO
        refine d_value (i := 0) rfl (by kernel_rfl) (by kernel_rfl) (by kernel_rfl) rfl (fun _ _ _ h => h) (fun w9 hS => run_move rfl rfl) trivial ?_
        simp only [Act.put, List.setIfInBounds_toArray, List.set_cons_zero, List.set_cons_succ]
        refine d_value (i := 1) rfl (by kernel_rfl) (by kernel_rfl) (by kernel_rfl) rfl (fun _ _ _ h => h) (fun w9 hS => run_move rfl rfl) trivial ?_
        simp only [Act.put, List.setIfInBounds_toArray, List.set_cons_zero, List.set_cons_succ]
        refine d_value (i := 3) rfl (by kernel_rfl) (by kernel_rfl) (by kernel_rfl) rfl (fun _ _ _ h => h) (fun w9 hS => run_move rfl rfl) trivial ?_
        simp only [Act.put, List.setIfInBounds_toArray, List.set_cons_zero, List.set_cons_succ]
        refine d_value (i := 4) rfl (by kernel_rfl) (by kernel_rfl) (by kernel_rfl) rfl (fun _ _ _ h => h) (fun w9 hS => run_tail 4 rfl rfl rfl (by omega)) trivial ?_
        simp only [Act.put, List.setIfInBounds_toArray, List.set_cons_zero, List.set_cons_succ]
        refine d_value (i := 6) rfl (by kernel_rfl) (by kernel_rfl) (by kernel_rfl) rfl (fun _ _ _ h => h) (fun w9 hS => run_move rfl rfl) trivial ?_
        simp only [Act.put, List.setIfInBounds_toArray, List.set_cons_zero, List.set_cons_succ]
        refine d_value (i := 7) rfl (by kernel_rfl) (by kernel_rfl) (by kernel_rfl) rfl (fun _ _ _ h => h) (fun w9 hS => run_tail 8 rfl rfl rfl (by omega)) trivial ?_
        simp only [Act.put, List.setIfInBounds_toArray, List.set_cons_zero, List.set_cons_succ]
        refine d_value (i := 9) rfl (by kernel_rfl) (by kernel_rfl) (by kernel_rfl) rfl (fun _ _ _ h => h) (fun w9 hS => run_move rfl rfl) trivial ?_
        simp only [Act.put, List.setIfInBounds_toArray, List.set_cons_zero, List.set_cons_succ]
        refine d_value (i := 10) rfl (by kernel_rfl) (by kernel_rfl) (by kernel_rfl) rfl (fun _ _ _ h => h) (fun w9 hS => run_tail 12 rfl rfl rfl (by omega)) trivial ?_
        simp only [Act.put, List.setIfInBounds_toArray, List.set_cons_zero, List.set_cons_succ]
        refine d_call (args := #[.string cur]) (i := 2) (by kernel_rfl) rfl rfl cf39 rfl _ rfl #[] rfl rfl (hW0 _) (fun _ _ => trivial) (fun wn2 tn => ?_)
        simp only [Act.put, List.setIfInBounds_toArray, List.set_cons_zero, List.set_cons_succ]
        replace ht := ht.trans' tn
        replace hO := hO.keep tn
        clear tn
        refine d_call (args := #[.string (cur.extract 4 cur.size)]) (i := 5) (by kernel_rfl) rfl rfl cf39 rfl _ rfl #[] rfl rfl (hW1 _) (fun _ _ => trivial) (fun wn5 tn => ?_)
        simp only [Act.put, List.setIfInBounds_toArray, List.set_cons_zero, List.set_cons_succ]
        replace ht := ht.trans' tn
        replace hO := hO.keep tn
        clear tn
        refine d_call (args := #[.string (cur.extract 8 cur.size)]) (i := 8) (by kernel_rfl) rfl rfl cf39 rfl _ rfl #[] rfl rfl (hW2 _) (fun _ _ => trivial) (fun wn8 tn => ?_)
        simp only [Act.put, List.setIfInBounds_toArray, List.set_cons_zero, List.set_cons_succ]
        replace ht := ht.trans' tn
        replace hO := hO.keep tn
        clear tn
        refine d_call (args := #[.string (cur.extract 12 cur.size)]) (i := 11) (by kernel_rfl) rfl rfl cf39 rfl _ rfl #[] rfl rfl (hW3 _) (fun _ _ => trivial) (fun wn11 tn => ?_)
        simp only [Act.put, List.setIfInBounds_toArray, List.set_cons_zero, List.set_cons_succ]
        replace ht := ht.trans' tn
        replace hO := hO.keep tn
        clear tn
        refine d_value (i := 12) rfl (by kernel_rfl) (by kernel_rfl) (by kernel_rfl) rfl (fun _ _ _ h => h) (fun w9 hS => run_build50 (f := f) rfl rfl rfl rfl rfl) trivial ?_
        simp only [Act.put, List.setIfInBounds_toArray, List.set_cons_zero, List.set_cons_succ]
        refine d_new (i := 13) (by kernel_rfl) rfl rfl (run_bs22 (f := f) rfl rfl) trivial ?_
        simp only [Act.put, List.setIfInBounds_toArray, List.set_cons_zero, List.set_cons_succ]
        have hg := heap_new wn11 (.cells (frCs f).toArray 50)
        replace hO := hO.keep ((Touch.refl Nothing wn11).alloc (.cells (frCs f).toArray 50))
        replace ht := ht.alloc (.cells (frCs f).toArray 50)
        refine d_step (i := 14) (by kernel_rfl) rfl rfl (fun K hK => wp_app1 (L := framesN s k) _ _ rfl rfl hO rfl hg ht hnl (fun v' w' hO' ht' _ => hK _ _ trivial ?_))
        clear hK K
        simp only [Act.put, List.setIfInBounds_toArray, List.set_cons_zero, List.set_cons_succ]
        refine d_value (i := 15) rfl (by kernel_rfl) (by kernel_rfl) (by kernel_rfl) rfl (fun _ _ _ h => h) (fun w9 hS => run_asgn rfl rfl) trivial ?_
        simp only [Act.put, List.setIfInBounds_toArray, List.set_cons_zero, List.set_cons_succ]
        refine wpAnyH_done (by kernel_rfl) ?_ _
        have hO2 : OwnF w w' v' (framesN s (k + 1)) := by rw [framesN_succ, ← hf]; exact hO'
        have hc2 : (cur.extract 16 cur.size).size = 16 * (n - (k + 1)) ∧ ∀ j, wordAt (cur.extract 16 cur.size) j = wordAt s (16 * (k + 1) + j) := by
          refine ⟨by rw [ByteArray.size_extract]; have := hc.out.1; omega, fun j => ?_⟩
          rw [wordAt_ext, hc.out.2]
          congr 1
          omega
        have hless : (cur.extract 16 cur.size).size < cur.size := by rw [ByteArray.size_extract]; omega
        have hb16 : (16 : Int) ≤ (cur.size : Int) := by omega
        replace hO2 := Lib.hid hO2
        replace hc2 := Lib.hid hc2
        clear hO hO' hg hW0 hW1 hW2 hW3 hf ht
        go_wp2
        exact ⟨⟨k + 1, _, v', by omega, rfl, rfl, hc2, hO2, ht'⟩, hless⟩
      · obtain rfl : k = n := by omega
        have hne := tl_yes (s := cur) (by have := hc.out.1; omega)
        obtain ⟨p, c, rfl, hsl⟩ := hO.out.sl
        have hC := Check_any wr p c _ hsl
        obtain ⟨⟨q, e⟩, hq⟩ : ∃ y, y = chkR (framesN s k) := ⟨_, rfl⟩
        rw [← hq] at hC
        have hr2 := hres.out
        rw [← hq] at hr2
        simp only [] at hC hr2
        obtain ⟨F, hF⟩ : ∃ F, F = framesN s k := ⟨_, rfl⟩
        rw [← hF] at hC hr2 hsl ⊢
        replace hC := Lib.hid hC
        clear hO hc hq hF
        replace hsl := Lib.hid hsl
        replace ht := Lib.hid ht
        by_cases he : e = 0
        · subst he
          rw [if_neg (by simp)] at hr2
          subst hr2
          go_wp2_with (first | (go_at_call 21; refine hC.out.mono ?_; rintro r w2 ⟨rfl, t2⟩))
          go_ret2
          exact ⟨p, c, rfl, hsl.out.keep t2 (fun _ _ q => q), ht.out.trans' t2⟩
        · rw [if_pos he] at hr2
          subst hr2
          have e1 : (e == 0) = false := by simp [he]
          have e2 : (e != 0) = true := by simp [he]
          go_wp2_with (first | (go_at_call 21; refine hC.out.mono ?_; rintro r w2 ⟨rfl, t2⟩))
          go_ret2
          exact ⟨none, 0, rfl, ⟨Nat.zero_le _, fun i hi => by simp at hi⟩, ht.out.trans' t2⟩
  · rw [if_pos (by omega)] at hres
    subst hres
    have e1 : ¬ ((s.size : Int).tmod 16) = 0 := by rw [Int.tmod_eq_emod_of_nonneg (by omega)]; omega
    have e2 : ¬ ((s.size : Int) % 16) = 0 := by omega
    go_enter Try.func18, Try.ntmps18
    go_wp2
    go_ret2
    exact ⟨none, 0, rfl, ⟨Nat.zero_le _, fun i hi => by simp at hi⟩, Touch.refl _ _⟩

end Go.Proofs.Ytkoplgpobagfoaa
