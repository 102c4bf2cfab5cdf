/-
  Layer 27: Decode of the document, walked. Printed by mkvg.py.
-/
import Derived.Test.YtkoplgpobagfoaaVf
namespace Go.Proofs.Ytkoplgpobagfoaa
open Go.RowKit
set_option linter.unusedVariables false
set_option linter.unusedSimpArgs false

theorem elt3 : Elt Try.prog 45 3 1 8 := Elt.mk' (z := .int .i64 0) Try.underlying45 (by kernel_rfl) rfl (by decide)

def intsV (ns : List Int) : List Value := ns.map (Value.int .i64)

/-- v is a row of ints of one's own. -/
def OwnI (w0 w : World) (v : Value) (ns : List Int) : Prop := w.ownsRow 0 3 1 v ns.length (intsV ns) ∧ ∀ b, v.ownBlock = some b → w0.heap.size ≤ b

theorem OwnI.nil (w0 w : World) : OwnI w0 w (.slice none 0 0) [] := ⟨⟨rfl, .inl ⟨rfl, rfl⟩⟩, fun b h => by cases h⟩
theorem OwnI.keep {w0 w w' : World} {v : Value} {ns : List Int} (h : OwnI w0 w v ns) (ht : Touch Nothing w w') : OwnI w0 w' v ns := ⟨ht.owns h.1 (fun _ _ q => q), h.2⟩

theorem OwnI.four {w0 w : World} {v : Value} {a b c d : Int} (h : OwnI w0 w v [a, b, c, d]) : ∃ g cap, v = .slice (some ⟨g, 0, none⟩) 4 cap ∧ w.cell? ⟨g, 0, none⟩ = some (.int .i64 a) ∧ w.cell? ⟨g, 1, none⟩ = some (.int .i64 b) ∧ w.cell? ⟨g, 2, none⟩ = some (.int .i64 c) ∧ w.cell? ⟨g, 3, none⟩ = some (.int .i64 d) := by
  rcases h.1.2 with ⟨hv, h0⟩ | ⟨g, cap, cur, hv, _, hg, hnc, _, hcs, htk⟩
  · simp at h0
  · have hc := h.1.cells (g := g) (by rw [hv]; rfl)
    refine ⟨g, cap, hv, ?_, ?_, ?_, ?_⟩
    · exact hc 0 _ rfl
    · exact hc 1 _ rfl
    · exact hc 2 _ rfl
    · exact hc 3 _ rfl

theorem wp_appI {o : Oper} {a : Act} {w w0 : World} {K : Act → World → Prop} {Q : Exit → Act → World → Prop} (s x : Operand)
    (ho : o.op = .call { callee := .builtin .append, args := #[s, x], argTypes := #[45, 45] }) {v : Value} {L : List Int} {y : Int} {g : Nat} (hs : a.eval s = v) (hO : OwnI w0 w v L) (hx : a.eval x = .slice (some ⟨g, 0, none⟩) 1 1)
    (hg : w.heap[g]? = some (.cells #[.int .i64 y] 3)) (ht : Touch Nothing w0 w) (hn : (L.length + 1) * 8 ≤ 140737488355328)
    (k : ∀ v' w', OwnI w0 w' v' (L ++ [y]) → Touch Nothing w0 w' → K (a.put o.dst v') w') : o.wp Try.prog a w K Q := by
  refine wp_app elt3 s x ho hs hO.1 hx (m := 1) (news := [.int .i64 y]) (.inr ⟨⟨g, 0, none⟩, 1, rfl, rfl, fun j u hu => ?_, fun u hu => by simp at hu; subst hu; rfl⟩) rfl (zs := intsV (L ++ [y])) (by simp [intsV]) (by unfold maxLen; omega) hn ?_
  · rw [Addr.add_lit, Nat.zero_add, cell_blk hg j]
    simpa using hu
  · intro v' w' ho' hgr hor
    have t' := ht.grown hgr (fun b hb q => by have := hO.2 b q; omega)
    refine k v' w' ⟨by rw [List.length_append]; exact ho', fun b hb => ?_⟩ t'
    rcases hor with h | h
    · exact hO.2 b (by rw [← h]; exact hb)
    · rw [hb] at h
      obtain rfl : b = w.heap.size := by simpa using h
      exact ht.size

theorem run_bs45 {a : Act} {w : World} {op : Oper} {x : Operand} {y : Int} (ho : op.op = .buildSlice 45 1 #[(0, x)]) (hx : a.eval x = .int .i64 y) :
    (execOp a.eval op).run Try.prog w = .ok (.value (.slice (some ⟨w.heap.size, 0, none⟩) 1 1)) (w.alloc (.cells #[.int .i64 y] 3)) := by
  have h : (Instr.buildSlice 45 1 #[(0, .int .i64 y)]).run Try.prog w = .ok (.slice (some ⟨w.heap.size, 0, none⟩) 1 1) (w.alloc (.cells #[.int .i64 y] 3)) := by kernel_rfl
  unfold execOp
  simp only [ho, List.map_toArray, List.map_cons, List.map_nil, hx, Sem.run_bind, h, Result.andThen_ok, Sem.run_pure]

/-- The words of a frame, one after the other. -/
def words (s : ByteArray) (i m : Nat) : List Int := (List.range m).map fun j => wordAt s (16 * i + 4 * j)
theorem words_len (s : ByteArray) (i m : Nat) : (words s i m).length = m := by simp [words]
theorem words_succ (s : ByteArray) (i m : Nat) : words s i (m + 1) = words s i m ++ [wordAt s (16 * i + 4 * m)] := by simp [words, List.range_succ]

set_option maxRecDepth 100000 in
set_option maxHeartbeats 3200000 in
theorem Decode_ref (w : World) (s : ByteArray) (hs : s.size ≤ 1048576) : Calls Try.prog 19 #[.string s] w (DecPost w (decR s)) := by
  obtain ⟨res, hres⟩ : ∃ x, x = decR s := ⟨_, rfl⟩
  rw [← hres]
  unfold decR at hres
  obtain ⟨n, hn⟩ : ∃ n, n = s.size / 16 := ⟨_, rfl⟩
  rw [← hn] at hres
  by_cases hm : s.size % 16 = 0
  · have hsz : s.size = 16 * n := by omega
    rw [if_neg (by omega)] at hres
    have e1 : ((s.size : Int).tmod 16) = 0 := by rw [Int.tmod_eq_emod_of_nonneg (by omega)]; omega
    have e2 : ((s.size : Int) % 16) = 0 := by omega
    have e3 : (s.size : Int) = 16 * (n : Int) := by omega
    replace hres := Lib.hid hres
    replace hn := Lib.hid hn
    go_enter Try.func19, Try.ntmps19
    go_wp2
    go_loopw [4, 5] (fun rv iv wr => ∃ (k : Nat) (v : Value), k ≤ n ∧ iv = .int .i64 ((16 * k : Nat) : Int) ∧ rv = v ∧ Hid (OwnF w wr v (framesN s k)) ∧ Touch Nothing w wr) (fun _ iv _ => s.size - (intOf iv).toNat)
    case atStart => exact ⟨0, _, Nat.zero_le _, rfl, rfl, Lib.hid (OwnF.nil _ _), Touch.refl _ _⟩
    case round =>
      obtain ⟨k, v, hk, rfl, rfl, hO, ht⟩ := hrel
      by_cases hlt : k < n
      · have hik : ((16 * k : Nat) : Int) < (s.size : Int) := by omega
        have hik2 : 16 * (k : Int) < 16 * (n : Int) := by omega
        go_wp2
        go_loopw [6, 7] (fun rv jv wr2 => ∃ (m : Nat) (v : Value), m ≤ 4 ∧ jv = .int .i64 ((4 * m : Nat) : Int) ∧ rv = v ∧ Hid (OwnI wr wr2 v (words s k m)) ∧ Touch Nothing wr wr2) (fun _ jv _ => 16 - (intOf jv).toNat)
        case atStart => exact ⟨0, _, Nat.zero_le _, rfl, rfl, Lib.hid (OwnI.nil _ _), Touch.refl _ _⟩
        case round =>
          obtain ⟨m, v2, hm4, rfl, rfl, hI, ht2⟩ := hrel
          by_cases hlm : m < 4
          · have hj16 : ((4 * m : Nat) : Int) < 16 := by omega
            have hj16b : 4 * (m : Int) < 16 := by omega
            have b0 := (gb s (16 * k + 4 * m)).toNat_lt
            have b1 := (gb s (16 * k + 4 * m + 1)).toNat_lt
            have b2 := (gb s (16 * k + 4 * m + 2)).toNat_lt
            have b3 := (gb s (16 * k + 4 * m + 3)).toNat_lt
            have hww : wordAt s (16 * k + 4 * m) = (((gb s (16 * k + 4 * m)).toNat * 16777216 + (gb s (16 * k + 4 * m + 1)).toNat * 65536 + (gb s (16 * k + 4 * m + 2)).toNat * 256 + (gb s (16 * k + 4 * m + 3)).toNat : Nat) : Int) := rfl
            have hwl : ((words s k m).length + 1) * 8 ≤ 140737488355328 := by rw [words_len]; omega
            replace hI := hI.out
            go_upto_region 11 with fail
            refine wp_region_held_drew (S := fun _ => True) (by kernel_rfl) trivial (fun _ => ?_)
            replace hI : OwnI _ wr.drew _ (words s k m) := hI
            have htt := ht2.drew
            refine d_value (i := 0) rfl (by kernel_rfl) (by kernel_rfl) (by kernel_rfl) rfl (fun _ _ _ h => h) (fun w9 hS => run_move rfl rfl) trivial ?_
            simp only [Act.put, List.setIfInBounds_toArray, List.set_cons_zero, List.set_cons_succ]
            refine d_value (i := 1) rfl (by kernel_rfl) (by kernel_rfl) (by kernel_rfl) rfl (fun _ _ _ h => h) (fun w9 hS => run_move rfl rfl) trivial ?_
            simp only [Act.put, List.setIfInBounds_toArray, List.set_cons_zero, List.set_cons_succ]
            refine d_value (i := 2) rfl (by kernel_rfl) (by kernel_rfl) (by kernel_rfl) rfl (fun _ _ _ h => h) (fun w9 hS => run_move rfl rfl) trivial ?_
            simp only [Act.put, List.setIfInBounds_toArray, List.set_cons_zero, List.set_cons_succ]
            refine d_value (i := 3) rfl (by kernel_rfl) (by kernel_rfl) (by kernel_rfl) rfl (fun _ _ _ h => h) (fun w9 hS => run_move rfl rfl) trivial ?_
            simp only [Act.put, List.setIfInBounds_toArray, List.set_cons_zero, List.set_cons_succ]
            refine d_value (i := 4) rfl (by kernel_rfl) (by kernel_rfl) (by kernel_rfl) rfl (fun _ _ _ h => h) (fun w9 hS => run_add ((16 * k + 4 * m : Nat) : Int) rfl rfl rfl (by omega) (by omega) (by omega)) trivial ?_
            simp only [Act.put, List.setIfInBounds_toArray, List.set_cons_zero, List.set_cons_succ]
            refine d_value (i := 5) rfl (by kernel_rfl) (by kernel_rfl) (by kernel_rfl) rfl (fun _ _ _ h => h) (fun w9 hS => run_idx (16 * k + 4 * m) rfl rfl rfl rfl (by omega)) trivial ?_
            simp only [Act.put, List.setIfInBounds_toArray, List.set_cons_zero, List.set_cons_succ]
            refine d_value (i := 6) rfl (by kernel_rfl) (by kernel_rfl) (by kernel_rfl) rfl (fun _ _ _ h => h) (fun w9 hS => run_cv53 rfl rfl) trivial ?_
            simp only [Act.put, List.setIfInBounds_toArray, List.set_cons_zero, List.set_cons_succ]
            refine d_value (i := 7) rfl (by kernel_rfl) (by kernel_rfl) (by kernel_rfl) rfl (fun _ _ _ h => h) (fun w9 hS => run_shl (((gb s (16 * k + 4 * m)).toNat * 16777216 : Nat) : Int) rfl rfl (by decide) (by show ((_ : Nat) : Int) * 2 ^ 24 = _; omega) (by omega) (by omega)) trivial ?_
            simp only [Act.put, List.setIfInBounds_toArray, List.set_cons_zero, List.set_cons_succ]
            refine d_value (i := 8) rfl (by kernel_rfl) (by kernel_rfl) (by kernel_rfl) rfl (fun _ _ _ h => h) (fun w9 hS => run_move rfl rfl) trivial ?_
            simp only [Act.put, List.setIfInBounds_toArray, List.set_cons_zero, List.set_cons_succ]
            refine d_value (i := 9) rfl (by kernel_rfl) (by kernel_rfl) (by kernel_rfl) rfl (fun _ _ _ h => h) (fun w9 hS => run_move rfl rfl) trivial ?_
            simp only [Act.put, List.setIfInBounds_toArray, List.set_cons_zero, List.set_cons_succ]
            refine d_value (i := 10) rfl (by kernel_rfl) (by kernel_rfl) (by kernel_rfl) rfl (fun _ _ _ h => h) (fun w9 hS => run_move rfl rfl) trivial ?_
            simp only [Act.put, List.setIfInBounds_toArray, List.set_cons_zero, List.set_cons_succ]
            refine d_value (i := 11) rfl (by kernel_rfl) (by kernel_rfl) (by kernel_rfl) rfl (fun _ _ _ h => h) (fun w9 hS => run_add ((16 * k + 4 * m : Nat) : Int) rfl rfl rfl (by omega) (by omega) (by omega)) trivial ?_
            simp only [Act.put, List.setIfInBounds_toArray, List.set_cons_zero, List.set_cons_succ]
            refine d_value (i := 12) rfl (by kernel_rfl) (by kernel_rfl) (by kernel_rfl) rfl (fun _ _ _ h => h) (fun w9 hS => run_add ((16 * k + 4 * m + 1 : Nat) : Int) rfl rfl rfl (by omega) (by omega) (by omega)) trivial ?_
            simp only [Act.put, List.setIfInBounds_toArray, List.set_cons_zero, List.set_cons_succ]
            refine d_value (i := 13) rfl (by kernel_rfl) (by kernel_rfl) (by kernel_rfl) rfl (fun _ _ _ h => h) (fun w9 hS => run_idx (16 * k + 4 * m + 1) rfl rfl rfl rfl (by omega)) trivial ?_
            simp only [Act.put, List.setIfInBounds_toArray, List.set_cons_zero, List.set_cons_succ]
            refine d_value (i := 14) rfl (by kernel_rfl) (by kernel_rfl) (by kernel_rfl) rfl (fun _ _ _ h => h) (fun w9 hS => run_cv53 rfl rfl) trivial ?_
            simp only [Act.put, List.setIfInBounds_toArray, List.set_cons_zero, List.set_cons_succ]
            refine d_value (i := 15) rfl (by kernel_rfl) (by kernel_rfl) (by kernel_rfl) rfl (fun _ _ _ h => h) (fun w9 hS => run_shl (((gb s (16 * k + 4 * m + 1)).toNat * 65536 : Nat) : Int) rfl rfl (by decide) (by show ((_ : Nat) : Int) * 2 ^ 16 = _; omega) (by omega) (by omega)) trivial ?_
            simp only [Act.put, List.setIfInBounds_toArray, List.set_cons_zero, List.set_cons_succ]
            refine d_value (i := 16) rfl (by kernel_rfl) (by kernel_rfl) (by kernel_rfl) rfl (fun _ _ _ h => h) (fun w9 hS => run_add (((gb s (16 * k + 4 * m)).toNat * 16777216 + (gb s (16 * k + 4 * m + 1)).toNat * 65536 : Nat) : Int) rfl rfl rfl (by omega) (by omega) (by omega)) trivial ?_
            simp only [Act.put, List.setIfInBounds_toArray, List.set_cons_zero, List.set_cons_succ]
            refine d_value (i := 17) rfl (by kernel_rfl) (by kernel_rfl) (by kernel_rfl) rfl (fun _ _ _ h => h) (fun w9 hS => run_move rfl rfl) trivial ?_
            simp only [Act.put, List.setIfInBounds_toArray, List.set_cons_zero, List.set_cons_succ]
            refine d_value (i := 18) rfl (by kernel_rfl) (by kernel_rfl) (by kernel_rfl) rfl (fun _ _ _ h => h) (fun w9 hS => run_move rfl rfl) trivial ?_
            simp only [Act.put, List.setIfInBounds_toArray, List.set_cons_zero, List.set_cons_succ]
            refine d_value (i := 19) rfl (by kernel_rfl) (by kernel_rfl) (by kernel_rfl) rfl (fun _ _ _ h => h) (fun w9 hS => run_move rfl rfl) trivial ?_
            simp only [Act.put, List.setIfInBounds_toArray, List.set_cons_zero, List.set_cons_succ]
            refine d_value (i := 20) rfl (by kernel_rfl) (by kernel_rfl) (by kernel_rfl) rfl (fun _ _ _ h => h) (fun w9 hS => run_add ((16 * k + 4 * m : Nat) : Int) rfl rfl rfl (by omega) (by omega) (by omega)) trivial ?_
            simp only [Act.put, List.setIfInBounds_toArray, List.set_cons_zero, List.set_cons_succ]
            refine d_value (i := 21) rfl (by kernel_rfl) (by kernel_rfl) (by kernel_rfl) rfl (fun _ _ _ h => h) (fun w9 hS => run_add ((16 * k + 4 * m + 2 : Nat) : Int) rfl rfl rfl (by omega) (by omega) (by omega)) trivial ?_
            simp only [Act.put, List.setIfInBounds_toArray, List.set_cons_zero, List.set_cons_succ]
            refine d_value (i := 22) rfl (by kernel_rfl) (by kernel_rfl) (by kernel_rfl) rfl (fun _ _ _ h => h) (fun w9 hS => run_idx (16 * k + 4 * m + 2) rfl rfl rfl rfl (by omega)) trivial ?_
            simp only [Act.put, List.setIfInBounds_toArray, List.set_cons_zero, List.set_cons_succ]
            refine d_value (i := 23) rfl (by kernel_rfl) (by kernel_rfl) (by kernel_rfl) rfl (fun _ _ _ h => h) (fun w9 hS => run_cv53 rfl rfl) trivial ?_
            simp only [Act.put, List.setIfInBounds_toArray, List.set_cons_zero, List.set_cons_succ]
            refine d_value (i := 24) rfl (by kernel_rfl) (by kernel_rfl) (by kernel_rfl) rfl (fun _ _ _ h => h) (fun w9 hS => run_shl (((gb s (16 * k + 4 * m + 2)).toNat * 256 : Nat) : Int) rfl rfl (by decide) (by show ((_ : Nat) : Int) * 2 ^ 8 = _; omega) (by omega) (by omega)) trivial ?_
            simp only [Act.put, List.setIfInBounds_toArray, List.set_cons_zero, List.set_cons_succ]
            refine d_value (i := 25) rfl (by kernel_rfl) (by kernel_rfl) (by kernel_rfl) rfl (fun _ _ _ h => h) (fun w9 hS => run_add (((gb s (16 * k + 4 * m)).toNat * 16777216 + (gb s (16 * k + 4 * m + 1)).toNat * 65536 + (gb s (16 * k + 4 * m + 2)).toNat * 256 : Nat) : Int) rfl rfl rfl (by omega) (by omega) (by omega)) trivial ?_
            simp only [Act.put, List.setIfInBounds_toArray, List.set_cons_zero, List.set_cons_succ]
            refine d_value (i := 26) rfl (by kernel_rfl) (by kernel_rfl) (by kernel_rfl) rfl (fun _ _ _ h => h) (fun w9 hS => run_move rfl rfl) trivial ?_
            simp only [Act.put, List.setIfInBounds_toArray, List.set_cons_zero, List.set_cons_succ]
            refine d_value (i := 27) rfl (by kernel_rfl) (by kernel_rfl) (by kernel_rfl) rfl (fun _ _ _ h => h) (fun w9 hS => run_move rfl rfl) trivial ?_
            simp only [Act.put, List.setIfInBounds_toArray, List.set_cons_zero, List.set_cons_succ]
            refine d_value (i := 28) rfl (by kernel_rfl) (by kernel_rfl) (by kernel_rfl) rfl (fun _ _ _ h => h) (fun w9 hS => run_move rfl rfl) trivial ?_
            simp only [Act.put, List.setIfInBounds_toArray, List.set_cons_zero, List.set_cons_succ]
            refine d_value (i := 29) rfl (by kernel_rfl) (by kernel_rfl) (by kernel_rfl) rfl (fun _ _ _ h => h) (fun w9 hS => run_add ((16 * k + 4 * m : Nat) : Int) rfl rfl rfl (by omega) (by omega) (by omega)) trivial ?_
            simp only [Act.put, List.setIfInBounds_toArray, List.set_cons_zero, List.set_cons_succ]
            refine d_value (i := 30) rfl (by kernel_rfl) (by kernel_rfl) (by kernel_rfl) rfl (fun _ _ _ h => h) (fun w9 hS => run_add ((16 * k + 4 * m + 3 : Nat) : Int) rfl rfl rfl (by omega) (by omega) (by omega)) trivial ?_
            simp only [Act.put, List.setIfInBounds_toArray, List.set_cons_zero, List.set_cons_succ]
            refine d_value (i := 31) rfl (by kernel_rfl) (by kernel_rfl) (by kernel_rfl) rfl (fun _ _ _ h => h) (fun w9 hS => run_idx (16 * k + 4 * m + 3) rfl rfl rfl rfl (by omega)) trivial ?_
            simp only [Act.put, List.setIfInBounds_toArray, List.set_cons_zero, List.set_cons_succ]
            refine d_value (i := 32) rfl (by kernel_rfl) (by kernel_rfl) (by kernel_rfl) rfl (fun _ _ _ h => h) (fun w9 hS => run_cv53 rfl rfl) trivial ?_
            simp only [Act.put, List.setIfInBounds_toArray, List.set_cons_zero, List.set_cons_succ]
            refine d_value (i := 33) rfl (by kernel_rfl) (by kernel_rfl) (by kernel_rfl) rfl (fun _ _ _ h => h) (fun w9 hS => run_add (wordAt s (16 * k + 4 * m)) rfl rfl rfl (by rw [hww]; omega) (by rw [hww]; omega) (by rw [hww]; omega)) trivial ?_
            simp only [Act.put, List.setIfInBounds_toArray, List.set_cons_zero, List.set_cons_succ]
            refine d_new (i := 34) (by kernel_rfl) rfl rfl (run_bs45 (y := wordAt s (16 * k + 4 * m)) rfl rfl) trivial ?_
            simp only [Act.put, List.setIfInBounds_toArray, List.set_cons_zero, List.set_cons_succ]
            have hg := heap_new wr.drew (.cells #[.int .i64 (wordAt s (16 * k + 4 * m))] 3)
            replace hI := hI.keep ((Touch.refl Nothing wr.drew).alloc (.cells #[.int .i64 (wordAt s (16 * k + 4 * m))] 3))
            replace htt := htt.alloc (.cells #[.int .i64 (wordAt s (16 * k + 4 * m))] 3)
            refine d_step (i := 35) (by kernel_rfl) rfl rfl (fun K hK => wp_appI (L := words s k m) _ _ rfl rfl hI rfl hg htt hwl (fun v' w' hO' ht' => hK _ _ trivial ?_))
            clear hK K
            simp only [Act.put, List.setIfInBounds_toArray, List.set_cons_zero, List.set_cons_succ]
            refine d_value (i := 36) rfl (by kernel_rfl) (by kernel_rfl) (by kernel_rfl) rfl (fun _ _ _ h => h) (fun w9 hS => run_asgn rfl rfl) trivial ?_
            simp only [Act.put, List.setIfInBounds_toArray, List.set_cons_zero, List.set_cons_succ]
            refine wpAnyH_done (by kernel_rfl) ?_ _
            rw [← words_succ] at hO'
            replace hO' := Lib.hid hO'
            clear hI hg hww hwl b0 b1 b2 b3 htt
            go_wp2
            exact ⟨⟨m + 1, v', by omega, by simp [Int.mul_add]; try omega, rfl, hO'.out, ht'⟩, by simp [intOf]; omega⟩
          · obtain rfl : m = 4 := by omega
            have hw4 : words s k 4 = [(frAt s k).a, (frAt s k).f, (frAt s k).t, (frAt s k).l] := rfl
            have hI4 := hI.out
            rw [hw4] at hI4
            have hgb := hI4.2
            obtain ⟨g, cap, rfl, c0, c1, c2, c3⟩ := hI4.four
            replace hgb := hgb g rfl
            have hO2 := hO.out.keep ht2
            have hne : ∀ b, Value.ownBlock _ = some b → ¬ g = b := fun b q e => by have := hO.out.lt q; omega
            have hnl : ((framesN s k).length + 1) * 32 ≤ 140737488355328 := by rw [framesN_len]; omega
            obtain ⟨f, hf⟩ : ∃ f, f = frAt s k := ⟨_, rfl⟩
            rw [← hf] at c0 c1 c2 c3
            clear hw4 hI4
            go_upto_region 12 with fail
            refine wp_region_held_drew (S := fun w' => w'.cell? ⟨g, 0, none⟩ = some (.int .i64 f.a) ∧ w'.cell? ⟨g, 1, none⟩ = some (.int .i64 f.f) ∧ w'.cell? ⟨g, 2, none⟩ = some (.int .i64 f.t) ∧ w'.cell? ⟨g, 3, none⟩ = some (.int .i64 f.l)) (by kernel_rfl) ⟨c0, c1, c2, c3⟩ (fun hS0 => ?_)
            replace hO2 : OwnF w wr.drew _ (framesN s k) := hO2
            have htt := (ht.trans' ht2).drew
            refine d_value (i := 0) rfl (by kernel_rfl) (by kernel_rfl) (by kernel_rfl) rfl (fun _ _ _ h => h) (fun w9 hS => run_move rfl rfl) hS0 ?_
            simp only [Act.put, List.setIfInBounds_toArray, List.set_cons_zero, List.set_cons_succ]
            refine d_value (i := 1) rfl (by kernel_rfl) (by kernel_rfl) (by kernel_rfl) rfl (fun _ _ _ h => h) (fun w9 hS => run_move rfl rfl) hS0 ?_
            simp only [Act.put, List.setIfInBounds_toArray, List.set_cons_zero, List.set_cons_succ]
            refine d_value (i := 2) rfl (by kernel_rfl) (by kernel_rfl) (by kernel_rfl) rfl (fun _ _ _ h => h) (fun w9 hS => run_iaddr 0 rfl rfl rfl rfl (by decide)) hS0 ?_
            simp only [Act.put, List.setIfInBounds_toArray, List.set_cons_zero, List.set_cons_succ]
            refine d_value (i := 3) rfl (by kernel_rfl) (by kernel_rfl) (by kernel_rfl) rfl (fun _ _ _ h => h) (fun w9 hS => run_load3 rfl rfl hS.1) hS0 ?_
            simp only [Act.put, List.setIfInBounds_toArray, List.set_cons_zero, List.set_cons_succ]
            refine d_value (i := 4) rfl (by kernel_rfl) (by kernel_rfl) (by kernel_rfl) rfl (fun _ _ _ h => h) (fun w9 hS => run_move rfl rfl) hS0 ?_
            simp only [Act.put, List.setIfInBounds_toArray, List.set_cons_zero, List.set_cons_succ]
            refine d_value (i := 5) rfl (by kernel_rfl) (by kernel_rfl) (by kernel_rfl) rfl (fun _ _ _ h => h) (fun w9 hS => run_iaddr 1 rfl rfl rfl rfl (by decide)) hS0 ?_
            simp only [Act.put, List.setIfInBounds_toArray, List.set_cons_zero, List.set_cons_succ]
            refine d_value (i := 6) rfl (by kernel_rfl) (by kernel_rfl) (by kernel_rfl) rfl (fun _ _ _ h => h) (fun w9 hS => run_load3 rfl rfl hS.2.1) hS0 ?_
            simp only [Act.put, List.setIfInBounds_toArray, List.set_cons_zero, List.set_cons_succ]
            refine d_value (i := 7) rfl (by kernel_rfl) (by kernel_rfl) (by kernel_rfl) rfl (fun _ _ _ h => h) (fun w9 hS => run_move rfl rfl) hS0 ?_
            simp only [Act.put, List.setIfInBounds_toArray, List.set_cons_zero, List.set_cons_succ]
            refine d_value (i := 8) rfl (by kernel_rfl) (by kernel_rfl) (by kernel_rfl) rfl (fun _ _ _ h => h) (fun w9 hS => run_iaddr 2 rfl rfl rfl rfl (by decide)) hS0 ?_
            simp only [Act.put, List.setIfInBounds_toArray, List.set_cons_zero, List.set_cons_succ]
            refine d_value (i := 9) rfl (by kernel_rfl) (by kernel_rfl) (by kernel_rfl) rfl (fun _ _ _ h => h) (fun w9 hS => run_load3 rfl rfl hS.2.2.1) hS0 ?_
            simp only [Act.put, List.setIfInBounds_toArray, List.set_cons_zero, List.set_cons_succ]
            refine d_value (i := 10) rfl (by kernel_rfl) (by kernel_rfl) (by kernel_rfl) rfl (fun _ _ _ h => h) (fun w9 hS => run_move rfl rfl) hS0 ?_
            simp only [Act.put, List.setIfInBounds_toArray, List.set_cons_zero, List.set_cons_succ]
            refine d_value (i := 11) rfl (by kernel_rfl) (by kernel_rfl) (by kernel_rfl) rfl (fun _ _ _ h => h) (fun w9 hS => run_iaddr 3 rfl rfl rfl rfl (by decide)) hS0 ?_
            simp only [Act.put, List.setIfInBounds_toArray, List.set_cons_zero, List.set_cons_succ]
            refine d_value (i := 12) rfl (by kernel_rfl) (by kernel_rfl) (by kernel_rfl) rfl (fun _ _ _ h => h) (fun w9 hS => run_load3 rfl rfl hS.2.2.2) hS0 ?_
            simp only [Act.put, List.setIfInBounds_toArray, List.set_cons_zero, List.set_cons_succ]
            refine d_value (i := 13) rfl (by kernel_rfl) (by kernel_rfl) (by kernel_rfl) rfl (fun _ _ _ h => h) (fun w9 hS => run_build50 (f := f) rfl rfl rfl rfl rfl) hS0 ?_
            simp only [Act.put, List.setIfInBounds_toArray, List.set_cons_zero, List.set_cons_succ]
            have ta := (Touch.refl Nothing wr.drew).alloc (.cells (frCs f).toArray 50)
            refine d_new (i := 14) (by kernel_rfl) rfl rfl (run_bs22 (f := f) rfl rfl) ⟨ta.cell hS0.1 (fun q => q), ta.cell hS0.2.1 (fun q => q), ta.cell hS0.2.2.1 (fun q => q), ta.cell hS0.2.2.2 (fun q => q)⟩ ?_
            simp only [Act.put, List.setIfInBounds_toArray, List.set_cons_zero, List.set_cons_succ]
            have hg := heap_new wr.drew (.cells (frCs f).toArray 50)
            replace hO2 := hO2.keep ta
            replace htt := htt.alloc (.cells (frCs f).toArray 50)
            refine d_step (i := 15) (by kernel_rfl) rfl rfl (fun K hK => wp_app1 (L := framesN s k) _ _ rfl rfl hO2 rfl hg htt hnl (fun v' w' hO' ht' tg => hK _ _ ⟨tg.cell (ta.cell hS0.1 (fun q => q)) (fun q => hne _ q rfl), tg.cell (ta.cell hS0.2.1 (fun q => q)) (fun q => hne _ q rfl), tg.cell (ta.cell hS0.2.2.1 (fun q => q)) (fun q => hne _ q rfl), tg.cell (ta.cell hS0.2.2.2 (fun q => q)) (fun q => hne _ q rfl)⟩ ?_))
            clear hK K
            simp only [Act.put, List.setIfInBounds_toArray, List.set_cons_zero, List.set_cons_succ]
            have hS1 := tg.cell (ta.cell hS0.1 (fun q => q)) (fun q => hne _ q rfl)
            have hS2 := tg.cell (ta.cell hS0.2.1 (fun q => q)) (fun q => hne _ q rfl)
            have hS3 := tg.cell (ta.cell hS0.2.2.1 (fun q => q)) (fun q => hne _ q rfl)
            have hS4 := tg.cell (ta.cell hS0.2.2.2 (fun q => q)) (fun q => hne _ q rfl)
            refine d_value (i := 16) rfl (by kernel_rfl) (by kernel_rfl) (by kernel_rfl) rfl (fun _ _ _ h => h) (fun w9 hS => run_asgn rfl rfl) ⟨hS1, hS2, hS3, hS4⟩ ?_
            simp only [Act.put, List.setIfInBounds_toArray, List.set_cons_zero, List.set_cons_succ]
            refine wpAnyH_done (by kernel_rfl) ?_ _
            rw [hf, ← framesN_succ] at hO'
            replace hO' := Lib.hid hO'
            clear hO2 hg hf hS1 hS2 hS3 hS4 hS0 ta tg htt hO hI
            clear c0 c1 c2 c3
            go_wp2
            exact ⟨⟨k + 1, v', by omega, by simp [Int.mul_add]; try omega, rfl, hO'.out, ht'⟩, by simp [intOf]; omega⟩
      · obtain rfl : k = n := by omega
        have hik : ¬ ((16 * k : Nat) : Int) < (s.size : Int) := by omega
        have hik2 : ¬ 16 * (k : Int) < 16 * (k : Int) := by omega
        obtain ⟨p, c, rfl, hsl⟩ := hO.out.sl
        have hC := Check_ref wr p c _ hsl
        obtain ⟨⟨q, e⟩, hq⟩ : ∃ y, y = chkR (framesN s k) := ⟨_, rfl⟩
        rw [← hq] at hC
        have hr2 := hres.out
        rw [← hq] at hr2
        simp only [] at hC hr2
        obtain ⟨F, hF⟩ : ∃ F, F = framesN s k := ⟨_, rfl⟩
        rw [← hF] at hC hr2 hsl ⊢
        replace hC := Lib.hid hC
        clear hO hq hF
        replace hsl := Lib.hid hsl
        replace ht := Lib.hid ht
        by_cases he : e = 0
        · subst he
          rw [if_neg (by simp)] at hr2
          subst hr2
          go_wp2_with (first | (go_at_call 22; refine hC.out.mono ?_; rintro r w2 ⟨rfl, t2⟩))
          go_ret2
          exact ⟨p, c, rfl, hsl.out.keep t2 (fun _ _ q => q), ht.out.trans' t2⟩
        · rw [if_pos he] at hr2
          subst hr2
          have e1 : (e == 0) = false := by simp [he]
          have e2 : (e != 0) = true := by simp [he]
          go_wp2_with (first | (go_at_call 22; refine hC.out.mono ?_; rintro r w2 ⟨rfl, t2⟩))
          go_ret2
          exact ⟨none, 0, rfl, ⟨Nat.zero_le _, fun i hi => by simp at hi⟩, ht.out.trans' t2⟩
  · rw [if_pos (by omega)] at hres
    subst hres
    have e1 : ¬ ((s.size : Int).tmod 16) = 0 := by rw [Int.tmod_eq_emod_of_nonneg (by omega)]; omega
    have e2 : ¬ ((s.size : Int) % 16) = 0 := by omega
    go_enter Try.func19, Try.ntmps19
    go_wp2
    go_ret2
    exact ⟨none, 0, rfl, ⟨Nat.zero_le _, fun i hi => by simp at hi⟩, Touch.refl _ _⟩

end Go.Proofs.Ytkoplgpobagfoaa
