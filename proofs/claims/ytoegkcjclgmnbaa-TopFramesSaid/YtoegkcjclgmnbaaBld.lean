/-
  strings.Builder: copyCheck, Write, WriteString, at a builder that the call itself made.
-/
import Derived.Test.YtoegkcjclgmnbaaProg
import Derived.Test.YtoegkcjclgmnbaaMem
import Derived.Lib.Builder
import Derived.Lib.UnsafeStr
import Derived.Laws.Externs
import Derived.Outline
namespace Go.Proofs.Ytoegkcjclgmnbaa
open Go.RowKit
set_option linter.unusedVariables false
set_option linter.unusedSimpArgs false

theorem sizeBld : (Try.prog.info? 57).map (fun i => i.size) = some 2 := by kernel_rfl
theorem liesBld : liesAt Try.prog Try.prog.depth 57 (2 / Try.prog.cellsOf 57) 0 57 1 = true := by kernel_rfl
theorem noEscape (args : Array Value) (w : World) : (callFunc 46 args).run Try.prog w = ((Extern.AbiNoEscape.same args).run Try.prog w).andThen fun v w' => .ok (.value v) w' :=
  run_callFunc_extern Try.func46 (by kernel_rfl) (by kernel_rfl) (by kernel_rfl) (by kernel_rfl) args w

set_option maxRecDepth 100000 in
theorem check_used (b : Nat) (w : World) (h0 : w.cell? ⟨b, 0, none⟩ = some (.pointer (some ⟨b, 0, none⟩))) :
    Calls Try.prog 41 #[.pointer (some ⟨b, 0, none⟩)] w fun e w' => e = .returned (.tuple #[]) ∧ w' = w := by
  obtain ⟨j, hj, _⟩ := Option.map_eq_some_iff.1 sizeBld
  go_enter Try.func41, Try.ntmps41
  go_wp2
  rw [Lib.run_neq_ptr_same w _ Try.underlying54 hj]
  go_wp2
  go_end0
  exact ⟨rfl, rfl⟩

theorem check_fresh (b : Nat) (w : World) (h0 : w.cell? ⟨b, 0, none⟩ = some (.pointer none)) (hsh : w.shape? b = some (57, 2)) (hfz : w.frozen? ⟨b, 0, none⟩ = false) :
    Calls Try.prog 41 #[.pointer (some ⟨b, 0, none⟩)] w fun e w' => e = .returned (.tuple #[]) ∧ w' = w.setCell ⟨b, 0, none⟩ (.pointer (some ⟨b, 0, none⟩)) := by
  obtain ⟨j, hj, hjs⟩ := Option.map_eq_some_iff.1 sizeBld
  go_enter Try.func41, Try.ntmps41
  go_wp2
  rw [Lib.run_to_unsafe w ⟨b, 0, none⟩ Try.underlying54 Try.underlying83 hj (by rw [hjs]; decide) hsh (Nat.zero_lt_succ 1)]
  simp only [Result.andThen]
  rw [Oper.upon_value]
  go_wp2
  rw [noEscape, Lib.run_noEscape]
  simp only [Result.andThen]
  rw [Oper.upon_value]
  go_wp2
  rw [Lib.run_from_unsafe w ⟨b, 0, none⟩ Try.underlying83 Try.underlying54 hj hsh liesBld]
  simp only [Result.andThen]
  rw [Oper.upon_value]
  go_wp2
  go_end0
  exact ⟨rfl, rfl⟩

theorem bld_same {T e : TypeId} {B b : Nat} {bs : List Value} {w w' : World} (h : Lib.IsBuilder T e B b bs w) (ht : Touch Nothing w w') : Lib.IsBuilder T e B b bs w' := by
  have step : ∀ p, Lib.BuilderAt T e B b p bs w → Lib.BuilderAt T e B b p bs w' := fun p ⟨h1, v, h2, h3, h4⟩ => ⟨h1, v, ht.heap h2 (fun q => q), ht.owns h3 (fun _ _ q => q), h4⟩
  exact h.imp (step _) (step _)

def BldPost (B b : Nat) (bs : List Value) (w w' : World) : Prop := Lib.IsBuilder 57 5 B b bs w' ∧ Below B w w'

theorem check_any (B b : Nat) (bs : List Value) (w : World) (h : Lib.IsBuilder 57 5 B b bs w) :
    Calls Try.prog 41 #[.pointer (some ⟨b, 0, none⟩)] w fun e w' => e = .returned (.tuple #[]) ∧ Lib.BuilderAt 57 5 B b (.pointer (some ⟨b, 0, none⟩)) bs w' ∧ Touch (fun k => k = b) w w' := by
  rcases h with h | h
  · refine (check_fresh b w h.cell0 h.shape h.frozen0).mono ?_
    rintro e w' ⟨rfl, rfl⟩
    exact ⟨rfl, h.used _, (Touch.refl (fun k => k = b) w).setCell (p := ⟨b, 0, none⟩) (fun _ => rfl) _⟩
  · refine (check_used b w h.cell0).mono ?_
    rintro e w' ⟨rfl, rfl⟩
    exact ⟨rfl, h, Touch.refl _ _⟩

theorem u8s : Elt Try.prog 55 5 1 1 := Elt.mk' (z := .int .u8 0) Try.underlying55 (by kernel_rfl) rfl (by decide)
theorem u8z : ∃ i, Try.prog.info? 5 = some i ∧ i.zero = some (.int .u8 0) := by
  obtain ⟨i, h1, h2, _⟩ := info_parts (P := Try.prog) (e := 5) (z := .int .u8 0) (size := 1) (bytes := 1) (by kernel_rfl)
  exact ⟨i, h1, h2⟩

/-- What stands behind an append onto the builder's buffer that is stored back. -/
theorem bld_put {B b n : Nat} {bs zs : List Value} {v v' : Value} {w w1 w2 : World} (hB : B ≤ b) (hBw : B ≤ w.heap.size) (ht : Touch (fun k => k = b) w w1)
    (hbk : w1.heap[b]? = some (.cells #[.pointer (some ⟨b, 0, none⟩), v] 57 (0, 0))) (hown : w1.ownsRow B 5 1 v n bs) (hne : v.ownBlock ≠ some b)
    (ho : w2.ownsRow 0 5 1 v' zs.length zs) (hg : w1.grownBy w2 v.ownBlock) (hv : v'.ownBlock = v.ownBlock ∨ v'.ownBlock = some w1.heap.size) : BldPost B b zs w (w2.setCell ⟨b, 1, none⟩ v') := by
  have hlt := lt_of_heap hbk
  have hb2 := (hg.block b hlt (fun e => hne e.symm)).trans hbk
  have hsz := ht.size
  have hbase : ∀ k, v'.ownBlock = some k → B ≤ k := fun k hk => by
    rcases hv with hv | hv <;> rw [hv] at hk
    · exact (hown.lt k hk).1
    · have : w1.heap.size = k := Option.some.inj hk
      omega
  refine ⟨.inr (Lib.BuilderAt.put hB hb2 (owns_base ho hbase) (by decide)), ?_⟩
  have t2 := ((ht.mono (G := fun k => B ≤ k) fun k _ e => by omega).grown hg (fun k _ hk => (hown.lt k hk).1)).setCell (p := ⟨b, 1, none⟩) (fun _ => hB) v'
  exact t2.below hBw fun k hk q => by omega

set_option maxRecDepth 100000 in
set_option maxHeartbeats 1600000 in
/-- Write of a slice that reads as these bytes. -/
theorem write_any (B b : Nat) (bs : List Value) (w : World) (h : Lib.IsBuilder 57 5 B b bs w) (hB : B ≤ w.heap.size) (p : Addr) (c n : Nat) (l : List UInt8) (hn : l.length = n) (hs : SlB w (some p) c l) (hp : p.block ≠ b) (hlen : bs.length + n ≤ 140737488355328) :
    Calls Try.prog 25 #[.pointer (some ⟨b, 0, none⟩), .slice (some p) n c] w fun e w' => e = .returned (.tuple #[.int .i64 (n : Int), .nilIface]) ∧ BldPost B b (bs ++ l.map byteV) w w' := by
  have hck := check_any B b bs w h
  have hl : l.length = n := hn
  replace hn := Lib.hid hn
  clear hl
  go_enter Try.func25, Try.ntmps25
  go_wp2_with (first
    | (go_at_call 41; refine hck.mono ?_; rintro e w1 ⟨rfl, ⟨hBb, v, hbk, hown, hne⟩, ht⟩; have c1 : w1.cell? ⟨b, 1, none⟩ = some v := (cell_blk hbk 1).trans rfl)
    | (at_builtin; refine wpList_app u8s rfl (.tmp 12) (.tmp 13) rfl rfl (owns_base hown (fun _ _ => Nat.zero_le _)) rfl (SlB.src (hs.keep ht (fun q e => by cases e; exact hp)) hn.out _) rfl rfl (by unfold maxLen; omega) (by omega) ?_; intro v2 w2 ho hg hv; have hp2 := bld_put (zs := bs ++ l.map byteV) hBb hB ht hbk hown hne (by rw [List.length_append, List.length_map, hn.out]; exact ho) hg hv; obtain ⟨av, cv, rfl⟩ := owns_slice ho; have hb2 := (hg.block b (lt_of_heap hbk) (fun e => hne e.symm)).trans hbk; have e1 := frz_blk hb2 1; have d1 : w2.cell? ⟨b, 1, none⟩ = some v := (cell_blk hb2 1).trans rfl; clear hb2 ho hg hv))
  go_ret2
  exact ⟨rfl, hp2⟩

set_option maxRecDepth 100000 in
set_option maxHeartbeats 1600000 in
theorem writeString_any (B b : Nat) (bs : List Value) (w : World) (h : Lib.IsBuilder 57 5 B b bs w) (hB : B ≤ w.heap.size) (s : ByteArray) (hlen : bs.length + s.size ≤ 140737488355328) :
    Calls Try.prog 26 #[.pointer (some ⟨b, 0, none⟩), .string s] w fun e w' => e = .returned (.tuple #[.int .i64 (s.size : Int), .nilIface]) ∧ BldPost B b (bs ++ s.data.toList.map byteV) w w' := by
  have hck := check_any B b bs w h
  have hn := Lib.hid (show s.data.toList.length = s.size from Array.length_toList)
  go_enter Try.func26, Try.ntmps26
  go_wp2_with (first
    | (go_at_call 41; refine hck.mono ?_; rintro e w1 ⟨rfl, ⟨hBb, v, hbk, hown, hne⟩, ht⟩; have c1 : w1.cell? ⟨b, 1, none⟩ = some v := (cell_blk hbk 1).trans rfl)
    | (at_builtin; refine wpList_app_str u8s u8z Try.underlying9 rfl (.tmp 12) (.tmp 13) rfl rfl (owns_base hown (fun _ _ => Nat.zero_le _)) rfl rfl (congrArg (bs ++ ·) (strCells_bytes s)) (by omega) ?_; intro v2 w2 ho hg hv; have hp2 := bld_put (zs := bs ++ s.data.toList.map byteV) hBb hB ht hbk hown hne (by rw [List.length_append, List.length_map, hn.out]; exact ho) hg hv; obtain ⟨av, cv, rfl⟩ := owns_slice ho; have hb2 := (hg.block b (lt_of_heap hbk) (fun e => hne e.symm)).trans hbk; have e1 := frz_blk hb2 1; have d1 : w2.cell? ⟨b, 1, none⟩ = some v := (cell_blk hb2 1).trans rfl; clear hb2 ho hg hv))
  go_ret2
  exact ⟨rfl, hp2⟩

end Go.Proofs.Ytoegkcjclgmnbaa
