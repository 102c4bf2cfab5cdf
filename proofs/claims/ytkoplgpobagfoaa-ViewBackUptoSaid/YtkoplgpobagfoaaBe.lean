/-
  Layer 27: the bytes of a view: Encode of the program, walked.
-/
import Derived.Test.YtkoplgpobagfoaaBd
import Derived.Test.YtkoplgpobagfoaaLd
namespace Go.Proofs.Ytkoplgpobagfoaa
open Go.RowKit
set_option linter.unusedVariables false
set_option linter.unusedSimpArgs false

def b8 (n : Int) : UInt8 := UInt8.ofNat (n % 256).toNat
def bytes4 (n : Int) : List UInt8 := [b8 (n / 16777216), b8 (n / 65536), b8 (n / 256), b8 n]
def encF (x : Fr) : List UInt8 := bytes4 x.a ++ bytes4 x.f ++ bytes4 x.t ++ bytes4 x.l
def encL (L : List Fr) : List UInt8 := L.flatMap encF
/-- The bytes of a view, and what is said. -/
def encR (L : List Fr) : List UInt8 × Int := if (chkR L).2 = 0 then (encL L, 0) else ([], (chkR L).2)

theorem b8_nat (n : Int) : ((b8 n).toNat : Int) = n % 256 := by
  unfold b8
  rw [UInt8.toNat_ofNat']
  omega

theorem bytes4_len (n : Int) : (bytes4 n).length = 4 := rfl
theorem bytes4_cells (n : Int) : (#[Value.int .u8 (n / 16777216 % 256), .int .u8 (n / 65536 % 256), .int .u8 (n / 256 % 256), .int .u8 (n % 256)] : Array Value).toList = (bytes4 n).map byteV := by
  simp only [bytes4, List.map_cons, List.map_nil, byteV, b8_nat]

theorem encF_len (x : Fr) : (encF x).length = 16 := rfl
theorem encL_len (L : List Fr) : (encL L).length = L.length * 16 := by
  unfold encL
  induction L with
  | nil => rfl
  | cons x r ih => rw [List.flatMap_cons, List.length_append, encF_len, ih, List.length_cons]; omega
theorem encL_append (L M : List Fr) : encL (L ++ M) = encL L ++ encL M := by unfold encL; rw [List.flatMap_append]

/-- Word m of a frame. -/
def wd (x : Fr) : Nat → Int
  | 0 => x.a
  | 1 => x.f
  | 2 => x.t
  | _ => x.l
/-- The bytes of the first m words. -/
def encW (x : Fr) : Nat → List UInt8
  | 0 => []
  | m + 1 => encW x m ++ bytes4 (wd x m)
theorem encW_len (x : Fr) (m : Nat) : (encW x m).length = m * 4 := by
  induction m with
  | zero => rfl
  | succ m ih => rw [encW, List.length_append, ih, bytes4_len]; omega
theorem encW_four (x : Fr) : encW x 4 = encF x := by simp [encW, encF, wd]

theorem encL_take (L : List Fr) (k : Nat) (h : k < L.length) : encL (L.take (k + 1)) = encL (L.take k) ++ encF L[k] := by
  rw [List.take_succ_eq_append_getElem h, encL_append]
  simp [encL]

theorem enc_step (pre : List UInt8) (x : Fr) (m : Nat) : (pre ++ encW x m).map byteV ++ (bytes4 (wd x m)).map byteV = (pre ++ encW x (m + 1)).map byteV := by
  have e : encW x (m + 1) = encW x m ++ bytes4 (wd x m) := rfl
  rw [e, ← List.map_append, List.append_assoc]

theorem chk_len (L : List Fr) (h : (chkR L).2 = 0) : L.length ≤ 65536 := by
  unfold chkR at h
  by_cases hn : 65536 < L.length
  · rw [if_pos hn] at h
    simp at h
  · omega

theorem run_ix0 (w : World) (a b c d : Int) : (Instr.index 75 (.agg #[.int .i64 a, .int .i64 b, .int .i64 c, .int .i64 d]) (.int .i64 0)).run Try.prog w = .ok (.int .i64 a) w := by kernel_rfl
theorem run_ix1 (w : World) (a b c d : Int) : (Instr.index 75 (.agg #[.int .i64 a, .int .i64 b, .int .i64 c, .int .i64 d]) (.int .i64 1)).run Try.prog w = .ok (.int .i64 b) w := by kernel_rfl
theorem run_ix2 (w : World) (a b c d : Int) : (Instr.index 75 (.agg #[.int .i64 a, .int .i64 b, .int .i64 c, .int .i64 d]) (.int .i64 2)).run Try.prog w = .ok (.int .i64 c) w := by kernel_rfl
theorem run_ix3 (w : World) (a b c d : Int) : (Instr.index 75 (.agg #[.int .i64 a, .int .i64 b, .int .i64 c, .int .i64 d]) (.int .i64 3)).run Try.prog w = .ok (.int .i64 d) w := by kernel_rfl

set_option maxRecDepth 100000 in
set_option maxHeartbeats 1600000 in
theorem Encode_sl (w : World) (p : Option Addr) (c : Nat) (L : List Fr) (hs : FrSl w p c L) :
    Calls Try.prog 23 #[.slice p L.length c] w fun r w' => r = .returned (.tuple #[.string ⟨(encR L).1.toArray⟩, .int .i64 (encR L).2]) ∧ Touch Nothing w w' := by
  have hC := Check_any w p c L hs
  obtain ⟨q, e, hqe⟩ : ∃ q e, chkR L = (q, e) := ⟨_, _, rfl⟩
  have hres : encR L = if e = 0 then (encL L, 0) else ([], e) := by unfold encR; rw [hqe]
  rw [hqe] at hC
  simp only [] at hC
  have hlen := chk_len L
  rw [hqe] at hlen
  simp only [] at hlen
  obtain ⟨res, hr⟩ : ∃ x, x = encR L := ⟨_, rfl⟩
  rw [← hr] at hres ⊢
  replace hC := Lib.hid hC
  replace hs := Lib.hid hs
  clear hqe hr
  by_cases he : e = 0
  · subst he
    rw [if_pos rfl] at hres
    replace hlen := hlen rfl
    replace hres := Lib.hid hres
    replace hlen := Lib.hid hlen
    go_enter Try.func23, Try.ntmps23
    go_wp2_with (first | (go_at_call 21; refine hC.out.mono ?_; rintro r w1 ⟨rfl, t1⟩))
    go_loopw [21] (fun iv wr => ∃ k : Nat, k ≤ L.length ∧ iv = .int .i64 (k : Int) ∧ Lib.IsBuilder 74 5 w1.heap.size w1.heap.size ((encL (L.take k)).map byteV) wr ∧ Below w1.heap.size w1 wr ∧ w1.heap.size < wr.heap.size)
      (fun iv _ => L.length - (intOf iv).toNat)
    case atStart =>
      exact ⟨0, Nat.zero_le _, rfl, .inl ⟨Nat.le_refl _, .slice none 0 0, heap_alloc_new w1 _, World.ownsRow_nil _ _ _ _, by simp [Value.ownBlock]⟩, (Below.refl _ _).alloc (Nat.le_refl _) _, by simp⟩
    case round =>
      obtain ⟨k, hk, rfl, hbd, hb, hsz⟩ := hrel
      by_cases hlt : k < L.length
      · obtain ⟨g, o, rfl, hc0⟩ := (hs.out.keep t1 (fun _ _ q => q)).2 k hlt
        have hlt2 : g < w1.heap.size := by simpa using World.block_lt_of_cell? w1 _ (hc0 0 _ rfl)
        have hc := range_keep hc0 (Touch.ofBelow hb) (by show ¬ _ ≤ g; omega)
        obtain ⟨⟨xa, xf, xt, xl⟩, hx⟩ : ∃ x, x = L[k] := ⟨_, rfl⟩
        rw [← hx] at hc
        obtain ⟨c0, c1, c2, c3⟩ := fr_cells hc
        simp only [] at c0 c1 c2 c3
        have hk0 : (0 : Int) ≤ (k : Int) := by omega
        replace hx := Lib.hid hx
        clear hc hc0 
        go_wp2
        have hb2 := hb.alloc (by omega) (.cells #[.int .i64 xa, .int .i64 xf, .int .i64 xt, .int .i64 xl] 50)
        have hbd2 := bld_same hbd ((Touch.refl _ _).alloc (.cells #[.int .i64 xa, .int .i64 xf, .int .i64 xt, .int .i64 xl] 50))
        obtain ⟨wq, hwq⟩ : ∃ wq, wq = wr.alloc (.cells #[.int .i64 xa, .int .i64 xf, .int .i64 xt, .int .i64 xl] 50) := ⟨_, rfl⟩
        have hsq : w1.heap.size < wq.heap.size := by rw [hwq]; simp; omega
        rw [← hwq] at hb2 hbd2 ⊢
        clear hwq hbd hb hsz c0 c1 c2 c3
        obtain ⟨pre, hpre⟩ : ∃ pre, pre = encL (L.take k) := ⟨_, rfl⟩
        have hpl : pre.length ≤ 1048576 := by rw [hpre, encL_len, List.length_take]; have := hlen.out; omega
        rw [← hpre] at hbd2
        replace hpre := Lib.hid hpre
        go_loopw [10, 34] (fun _ jv wr => ∃ m : Nat, m ≤ 4 ∧ jv = .int .i64 (m : Int) ∧ Lib.IsBuilder 74 5 w1.heap.size w1.heap.size ((pre ++ encW ⟨xa, xf, xt, xl⟩ m).map byteV) wr ∧ Below w1.heap.size w1 wr ∧ w1.heap.size < wr.heap.size)
          (fun _ jv _ => 4 - (intOf jv).toNat)
        case atStart => exact ⟨0, by omega, rfl, by rw [encW, List.append_nil]; exact hbd2, hb2, hsq⟩
        case round =>
          obtain ⟨m, hm, rfl, hbd3, hb3, hsz3⟩ := hrel
          clear hbd2 hb2
          by_cases hm4 : m < 4
          · have hW := fun X : Int => write_any w1.heap.size w1.heap.size ((pre ++ encW ⟨xa, xf, xt, xl⟩ m).map byteV) (wr.alloc (.cells #[.int .u8 (X / 16777216 % 256), .int .u8 (X / 65536 % 256), .int .u8 (X / 256 % 256), .int .u8 (X % 256)] 5))
              (bld_same hbd3 ((Touch.refl _ _).alloc _)) (by simp; omega) ⟨wr.heap.size, 0, none⟩ 4 4 (bytes4 X) rfl (SlB.made (bytes4_cells X) (Nat.le_refl 4) (Touch.refl _ _)) (by show wr.heap.size ≠ _; omega) (by rw [List.length_map, List.length_append, encW_len]; omega)
            have hst : ∀ X, X = wd ⟨xa, xf, xt, xl⟩ m → (pre ++ encW ⟨xa, xf, xt, xl⟩ m).map byteV ++ (bytes4 X).map byteV = (pre ++ encW ⟨xa, xf, xt, xl⟩ (m + 1)).map byteV := by
              rintro X rfl
              exact enc_step pre _ m
            replace hW := Lib.hid hW
            replace hst := Lib.hid hst
            clear hbd3
            rcases (by omega : m = 0 ∨ m = 1 ∨ m = 2 ∨ m = 3) with rfl | rfl | rfl | rfl
            · have kI := fun w => run_ix0 w xa xf xt xl
              replace hW := Lib.hid (hW.out xa)
              replace hst := Lib.hid (hst.out xa rfl)
              go_wp2_with (first | (go_at_call 41; refine hW.out.mono ?_; rintro r w3 ⟨rfl, hb4, hw4⟩))
              rw [hst.out] at hb4
              go_roundw
              case rel =>
                have h1 := hw4.size
                simp at h1
                exact ⟨1, by omega, by go_num, hb4, hb3.trans (((Below.refl _ wr).alloc (by omega) _).trans hw4), by omega⟩
              case measure => simp [intOf]
            · have kI := fun w => run_ix1 w xa xf xt xl
              replace hW := Lib.hid (hW.out xf)
              replace hst := Lib.hid (hst.out xf rfl)
              go_wp2_with (first | (go_at_call 41; refine hW.out.mono ?_; rintro r w3 ⟨rfl, hb4, hw4⟩))
              rw [hst.out] at hb4
              go_roundw
              case rel =>
                have h1 := hw4.size
                simp at h1
                exact ⟨2, by omega, by go_num, hb4, hb3.trans (((Below.refl _ wr).alloc (by omega) _).trans hw4), by omega⟩
              case measure => simp [intOf]
            · have kI := fun w => run_ix2 w xa xf xt xl
              replace hW := Lib.hid (hW.out xt)
              replace hst := Lib.hid (hst.out xt rfl)
              go_wp2_with (first | (go_at_call 41; refine hW.out.mono ?_; rintro r w3 ⟨rfl, hb4, hw4⟩))
              rw [hst.out] at hb4
              go_roundw
              case rel =>
                have h1 := hw4.size
                simp at h1
                exact ⟨3, by omega, by go_num, hb4, hb3.trans (((Below.refl _ wr).alloc (by omega) _).trans hw4), by omega⟩
              case measure => simp [intOf]
            · have kI := fun w => run_ix3 w xa xf xt xl
              replace hW := Lib.hid (hW.out xl)
              replace hst := Lib.hid (hst.out xl rfl)
              go_wp2_with (first | (go_at_call 41; refine hW.out.mono ?_; rintro r w3 ⟨rfl, hb4, hw4⟩))
              rw [hst.out] at hb4
              go_roundw
              case rel =>
                have h1 := hw4.size
                simp at h1
                exact ⟨4, by omega, by go_num, hb4, hb3.trans (((Below.refl _ wr).alloc (by omega) _).trans hw4), by omega⟩
              case measure => simp [intOf]
          · obtain rfl : m = 4 := by omega
            rw [encW_four, hpre.out, hx.out, ← encL_take L k hlt] at hbd3
            have e3 : IntKind.i64.wrap ((k : Int) + 1) = (k : Int) + 1 := by rw [IntKind.wrap_i64]; have := hlen.out; omega
            go_wp2
            exact ⟨⟨k + 1, by omega, by simp, hbd3, hb3, hsz3⟩, by simp [intOf]; omega⟩
      · obtain rfl : k = L.length := by omega
        have hb' := Lib.hid (Try.Builder_String_any w1.heap.size w1.heap.size (encL L) wr (by rw [List.take_length] at hbd; exact hbd) (by omega))
        go_wp2_with (first | (go_at_call 42; refine hb'.out.mono ?_; rintro r w4 ⟨rfl, hb4⟩))
        go_ret2
        exact ⟨by rw [hres.out]; rfl, t1.trans' (Touch.ofBelow0 (hb.trans hb4))⟩
  · rw [if_neg he] at hres
    subst hres
    have e1 : (e == 0) = false := by simp [he]
    have e2 : (e != 0) = true := by simp [he]
    go_enter Try.func23, Try.ntmps23
    go_wp2_with (first | (go_at_call 21; refine hC.out.mono ?_; rintro r w1 ⟨rfl, t1⟩))
    go_ret2
    exact ⟨rfl, t1⟩

theorem Encode_any (w : World) (v : Value) (L : List Fr) (h : FrA w v L) :
    Calls Try.prog 23 #[v] w fun r w' => r = .returned (.tuple #[.string ⟨(encR L).1.toArray⟩, .int .i64 (encR L).2]) ∧ Touch Nothing w w' := by
  obtain ⟨p, c, rfl, hs⟩ := h.sl
  exact Encode_sl w p c L hs

end Go.Proofs.Ytkoplgpobagfoaa
