/-
  Layer 10: Of of package frame.
-/
import Derived.Test.YtoegkcjclgmnbaaBld
import Derived.Test.YtoegkcjclgmnbaaModel
import Derived.Test.YtoegkcjclgmnbaaShelf
import Derived.Deep.LoopGhost
namespace Go.Proofs.Ytoegkcjclgmnbaa
open Go.RowKit
set_option linter.unusedVariables false
set_option linter.unusedSimpArgs false

theorem head_bytes (n : Nat) (h : n ≤ 4096) : (#[Value.int .u8 0, .int .u8 0, .int .u8 ((n : Int) / 256), .int .u8 ((n : Int) % 256)] : Array Value).toList = ([0, 0, UInt8.ofNat (n / 256), UInt8.ofNat n] : List UInt8).map byteV := by
  have e1 : ((UInt8.ofNat (n / 256)).toNat : Int) = (n : Int) / 256 := by rw [UInt8.toNat_ofNat']; omega
  have e2 : ((UInt8.ofNat n).toNat : Int) = (n : Int) % 256 := by rw [UInt8.toNat_ofNat']; omega
  simp only [List.map_cons, List.map_nil, byteV, e1, e2]
  rfl

set_option maxRecDepth 100000 in
set_option maxHeartbeats 1600000 in
theorem of_any (w : World) (A : Option Addr) (c : Nat) (ts : List ByteArray) (hs : StrSl w A c ts) (hsum : frLen ts ≤ 140737488355328) :
    Calls Try.prog 9 #[.slice A ts.length c] w fun e w' => e = .returned (.tuple #[.string ⟨(ofS ts).1.toArray⟩, .int .i64 (ofS ts).2]) ∧ Below w.heap.size w w' := by
  have hss := Lib.hid hs
  have hts : ts.length ≤ 140737488355328 := by
    have : ∀ l : List ByteArray, l.length ≤ frLen l := fun l => by
      induction l with
      | nil => simp [frLen]
      | cons a r ih => simp [frLen] at ih ⊢; omega
    have := this ts
    omega
  have hok : (∀ s ∈ ts, s.size ≤ 4096) → ofS ts = (fr ts, 0) := fun h => if_pos (List.all_eq_true.2 fun s hs => decide_eq_true (h s hs))
  have hno : ∀ s ∈ ts, 4096 < s.size → ofS ts = ([], 2) := fun s hs h => if_neg fun q => by
    have := of_decide_eq_true (List.all_eq_true.1 q s hs)
    omega
  replace hok := Lib.hid hok
  replace hno := Lib.hid hno
  replace hsum := Lib.hid hsum
  clear hs
  go_enter Try.func9, Try.ntmps9
  go_wp2
  go_loopw [10] (fun i wr => ∃ k : Nat, k ≤ ts.length ∧ i = .int .i64 (k : Int) ∧ Lib.IsBuilder 57 5 w.heap.size w.heap.size ((fr (ts.take k)).map byteV) wr ∧ Below w.heap.size w wr ∧ w.heap.size < wr.heap.size ∧ Hid (∀ s ∈ ts.take k, s.size ≤ 4096))
    (fun i _ => ts.length - (intOf i).toNat)
  case atStart =>
    exact ⟨0, Nat.zero_le _, rfl, .inl ⟨Nat.le_refl _, .slice none 0 0, heap_alloc_new w _, World.ownsRow_nil _ _ _ _, by simp [Value.ownBlock]⟩, (Below.refl _ _).alloc (Nat.le_refl _) _, by simp, by intro s hs; simp at hs⟩
  case round =>
    obtain ⟨k, hk, rfl, hbd, hb, hsz, hall⟩ := hrel
    by_cases hlt : k < ts.length
    · obtain ⟨g, o, rfl, hc⟩ := hss.out.2 k hlt
      have hc1 := (Touch.ofBelow hb).cell hc (by have := World.block_lt_of_cell? w _ hc; simpa using this)
      obtain ⟨s, hs⟩ : ∃ s, s = ts[k] := ⟨_, rfl⟩
      rw [← hs] at hc1
      have hs' := Lib.hid hs
      have hmem : s ∈ ts := by rw [hs]; exact List.getElem_mem _
      clear hs hc hss
      by_cases hbig : 4096 < s.size
      · have hres := Lib.hid (hno.out s hmem hbig)
        go_wp2
        go_ret2
        exact ⟨by rw [hres.out]; rfl, hb⟩
      · have hbig' : s.size ≤ 4096 := by omega
        have hcs : (#[Value.int .u8 0, .int .u8 0, .int .u8 ((s.size : Int) / 256), .int .u8 ((s.size : Int) % 256)] : Array Value).toList = ([0, 0, UInt8.ofNat (s.size / 256), UInt8.ofNat s.size] : List UInt8).map byteV := head_bytes s.size hbig'
        have hfl := frLen_take ts k hlt
        rw [← hs'.out, ← fr_len] at hfl
        have hW := write_any w.heap.size w.heap.size ((fr (ts.take k)).map byteV) (wr.alloc (.cells #[.int .u8 0, .int .u8 0, .int .u8 ((s.size : Int) / 256), .int .u8 ((s.size : Int) % 256)] 5))
          (bld_same hbd ((Touch.refl _ _).alloc _)) (by simp; omega) ⟨wr.heap.size, 0, none⟩ 4 4 _ rfl (SlB.made hcs (Nat.le_refl 4) (Touch.refl _ _)) (by show wr.heap.size ≠ _; omega) (by rw [List.length_map]; have := hsum.out; omega)
        have hfin : ((fr (ts.take k)).map byteV ++ ([0, 0, UInt8.ofNat (s.size / 256), UInt8.ofNat s.size] : List UInt8).map byteV) ++ s.data.toList.map byteV = (fr (ts.take (k + 1))).map byteV := by
          rw [List.take_succ_eq_append_getElem hlt, fr_snoc, ← hs'.out]
          simp only [one, tx_len, List.map_append, List.append_assoc]
          rfl
        have hall' : Hid (∀ s ∈ ts.take (k + 1), s.size ≤ 4096) := by
          intro x hx
          rw [List.take_succ_eq_append_getElem hlt, ← hs'.out] at hx
          rcases List.mem_append.1 hx with hx | hx
          · exact hall.out x hx
          · rw [List.mem_singleton.1 hx]; exact hbig'
        replace hW := Lib.hid hW
        replace hfin := Lib.hid hfin
        have hl1 : (fr (ts.take k)).length + (s.size + 4) ≤ 140737488355328 := by have := hsum.out; omega
        clear hfl hcs hbd hall hmem
        go_wp2_with (first | (go_at_call 25; refine hW.out.mono ?_; rintro e w1 ⟨rfl, hb1, hw1⟩) | (go_at_call 26; refine (writeString_any _ _ _ _ hb1 (by have := hw1.size; simp at this; omega) s (by simp; omega)).mono ?_; rintro e w2 ⟨rfl, hb2, hw2⟩))
        go_roundw
        case rel =>
          rw [hfin.out] at hb2
          have h1 := hw1.size
          have h2 := hw2.size
          simp at h1
          exact ⟨k + 1, hlt, by go_num, hb2, (hb.trans (((Below.refl _ wr).alloc (by omega) _).trans hw1)).trans hw2, by omega, hall'⟩
        case measure => simp [intOf]; omega
    · obtain rfl : k = ts.length := by omega
      have hb' := Lib.hid (Try.Builder_String_any w.heap.size w.heap.size (fr ts) wr (by rw [List.take_length] at hbd; exact hbd) (by omega))
      have hres := Lib.hid (hok.out (by have := hall.out; rwa [List.take_length] at this))
      go_wp2_with (go_at_call 27; refine hb'.out.mono ?_; rintro e w' ⟨rfl, hb2⟩)
      go_ret2
      exact ⟨by rw [hres.out]; rfl, hb.trans hb2⟩

end Go.Proofs.Ytoegkcjclgmnbaa
