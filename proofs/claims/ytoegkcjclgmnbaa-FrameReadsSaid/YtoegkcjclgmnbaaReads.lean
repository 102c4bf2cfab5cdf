/-
  FrameReads: the walk of the law, from the contracts: both readers hold one model's state.
-/
import Derived.Test.YtoegkcjclgmnbaaBreaks
import Derived.Deep.RegionWith
import Derived.Deep.DeepCutAuto
namespace Go.Proofs.Ytoegkcjclgmnbaa
open Go.RowKit
set_option linter.unusedVariables false
set_option linter.unusedSimpArgs false

/-- The law's two readers: the program's in block H, the reference's in block H + 1 (H: where the heap ended ahead of the call). -/
structure Duo (w0 : World) (s1 s2 : St) (w : World) : Prop where
  rd : ∃ sv, Rd w w0.heap.size sv s1 ∧ ∀ k, sv.ownBlock = some k → w0.heap.size + 2 ≤ k
  rr : RR w (w0.heap.size + 1) s2
  hb : Below w0.heap.size w0 w
  hB : w0.heap.size + 2 ≤ w.heap.size

theorem RR.touch {F : Nat → Prop} {w w' : World} {g : Nat} {s : St} (h : RR w g s) (ht : Touch F w w') (hg : ¬ F g) : RR w' g s := by
  obtain ⟨t, h1, h2⟩ := h
  exact ⟨t, ht.heap h1 hg, h2⟩

theorem Duo.r {w0 w w' : World} {s1 s2 s1' : St} {sv : Value} (h : Duo w0 s1 s2 w) (hs : ∀ k, sv.ownBlock = some k → w0.heap.size + 2 ≤ k) (hp : RdPost w w0.heap.size sv s1' w') : Duo w0 s1' s2 w' := by
  obtain ⟨sv', q1, q2, q3⟩ := hp
  have hB := h.hB
  have hsz := q2.size
  refine ⟨⟨sv', q1, fun k hk => (q3 k hk).elim (hs k) fun q => by omega⟩, h.rr.touch q2 fun q => ?_, h.hb.trans (q2.below (by omega) fun k hk q => ?_), by omega⟩
  · rcases q with q | q
    · omega
    · have := hs _ q; omega
  · rcases q with q | q
    · omega
    · have := hs _ q; omega

theorem Duo.d {w0 w w' : World} {s1 s2 s2' : St} (h : Duo w0 s1 s2 w) (hp : RRPost w (w0.heap.size + 1) s2' w') : Duo w0 s1 s2' w' := by
  obtain ⟨q1, q2⟩ := hp
  obtain ⟨sv, r1, r2⟩ := h.rd
  have hB := h.hB
  have hsz := q2.size
  exact ⟨⟨sv, r1.touch q2 (by omega) (fun k hk q => by have := r2 k hk; omega), r2⟩, q1, h.hb.trans (q2.below (by omega) fun k hk q => by omega), by omega⟩

theorem Duo.keep {w0 w w' : World} {s1 s2 : St} (h : Duo w0 s1 s2 w) (ht : Touch Nothing w w') : Duo w0 s1 s2 w' := by
  obtain ⟨sv, r1, r2⟩ := h.rd
  have hB := h.hB
  have hsz := ht.size
  exact ⟨⟨sv, r1.touch ht (fun q => q) (fun _ _ q => q), r2⟩, h.rr.touch ht (fun q => q), h.hb.trans (ht.below (by omega) fun _ _ q => q), by omega⟩

theorem rtake_is {w : World} {g : Nat} {s s' : St} (h : RR w g s) {c : ByteArray} (hc : c.size ≤ 9223372036854775807) {e0 : Int} (hn : take s (tx c) = (e0, s')) :
    Calls Try.prog 19 #[.pointer (some ⟨g, 0, none⟩), .string c] w fun e w' => e = .returned (.int .i64 e0) ∧ RRPost w g s' w' := by
  refine (rtake_any h c hc).mono fun e w' hp => ?_
  rw [hn] at hp
  exact hp

theorem rnext_is {w : World} {g : Nat} {s s' : St} (h : RR w g s) {l : List UInt8} {b : Bool} (hn : next s = ((l, b), s')) :
    Calls Try.prog 20 #[.pointer (some ⟨g, 0, none⟩)] w fun e w' => e = .returned (.tuple #[.string ⟨l.toArray⟩, .bool b]) ∧ RRPost w g s' w' := by
  refine (rnext_any h).mono fun e w' hp => ?_
  unfold RNextPost at hp
  rwa [hn] at hp

theorem RR.have {w : World} {g : Nat} {s : St} (h : RR w g s) : ∃ t : ByteArray, w.cell? ⟨g, 0, none⟩ = some (.string t) ∧ Hid (t.size = s.left.length) := by
  obtain ⟨t, h1, h2, _⟩ := h
  exact ⟨t, (cell_blk h1 0).trans rfl, by rw [← h2, tx_len]; rfl⟩

theorem touch_new {F : Nat → Prop} {w w1 w2 : World} (h : Touch Nothing w w1) (k : Touch F w1 w2) (hF : ∀ j, F j → w.heap.size ≤ j) : Touch Nothing w w2 :=
  h.trans k fun i hi q => by have := hF i q; omega

theorem ne_len {a b : Nat} (h : Hid (a = b)) : ((b : Int) != (a : Int)) = false := by
  have := h.out
  subst this
  simp

theorem next_is2 {w : World} {g : Nat} {sv : Value} {s s' : St} (h : Rd w g sv s) {l : List UInt8} {b : Bool} (hn : next s = ((l, b), s')) {t : ByteArray} (ht : t = ⟨l.toArray⟩) :
    Calls Try.prog 16 #[.pointer (some ⟨g, 0, none⟩)] w fun e w' => e = .returned (.tuple #[.string t, .bool b]) ∧ RdPost w g sv s' w' := by
  subst ht; exact next_is h hn

theorem rnext_is2 {w : World} {g : Nat} {s s' : St} (h : RR w g s) {l : List UInt8} {b : Bool} (hn : next s = ((l, b), s')) {t : ByteArray} (ht : t = ⟨l.toArray⟩) :
    Calls Try.prog 20 #[.pointer (some ⟨g, 0, none⟩)] w fun e w' => e = .returned (.tuple #[.string t, .bool b]) ∧ RRPost w g s' w' := by
  subst ht; exact rnext_is h hn

theorem Rd.drewN {w : World} {g : Nat} {sv : Value} {s : St} (h : Rd w g sv s) (n : Nat) : Rd (w.drewN n) g sv s :=
  h.touch (F := Nothing) ((Touch.refl _ _).drewN n) (fun q => q) (fun _ _ q => q)

theorem waits_quiet {w : World} {g : Nat} {sv : Value} {s : St} (h : Rd w g sv s) (n : Nat) :
    Calls Try.prog 15 #[.pointer (some ⟨g, 0, none⟩)] (w.drewN n) fun e w' => e = .returned (.int .i64 (s.left.length : Int)) ∧ ∃ m, w' = w.drewN m :=
  (waits_any (h.drewN n)).mono fun e w' ⟨h1, m, h2⟩ => ⟨h1, n + m, by rw [h2, World.drewN_drewN]⟩

/-- The text that the law gives a fork. -/
def ffs : ByteArray := ⟨#[255, 255, 255, 255, 255]⟩

set_option maxRecDepth 100000 in
set_option maxHeartbeats 3200000 in
theorem FrameReads_walk (w : World) (v : Value) (ts : List ByteArray) (hv : StrA w v ts) (hz : ∀ s ∈ ts, s.size ≤ 9223372036854775807) (hl : ts.length * 16 ≤ 140737488351232)
    (v1 : Value) (zs : List Int) (hi : IntA w v1 zs) (hzs : ∀ n ∈ zs, -9223372036854775808 ≤ n ∧ n ≤ 9223372036854775807) (hli : zs.length * 8 ≤ 140737488351232) :
    Calls Try.prog 7 #[v, v1] w fun e w' => e = .returned (.bool true) ∧ Below w.heap.size w w' := by
  obtain ⟨A, c, rfl, hsl, _⟩ := hv.sl
  have hl' : ts.length ≤ 8796093021952 := by omega
  have hli' : zs.length ≤ 17592186043904 := by omega
  replace hz := Lib.hid hz
  replace hzs := Lib.hid hzs
  have hsl' := Lib.hid hsl
  clear hsl hv hl hli
  obtain ⟨A1, c1, rfl, hsi⟩ : ∃ A1 c1, v1 = .slice A1 zs.length c1 ∧ ∀ i (h : i < zs.length), ∃ g o, A1 = some ⟨g, o, none⟩ ∧ w.cell? ⟨g, o + i, none⟩ = some (.int .i64 zs[i]) := by
    rcases hi with ⟨rfl, rfl⟩ | ⟨a, c1, rfl, h1, h2⟩
    · exact ⟨_, _, rfl, fun i h => by simp at h⟩
    · refine ⟨_, c1, rfl, fun i h => ?_⟩
      obtain ⟨g, o, rfl⟩ := addr_plain (h2 0 (by omega))
      have := h2 i h
      rw [Addr.add_lit] at this
      exact ⟨g, o, rfl, this⟩
  replace hsi := Lib.hid hsi
  clear hi
  have hD0 : Duo w ⟨[], false⟩ ⟨[], false⟩ ((w.alloc (.cells #[.slice none 0 0, .int .i64 0, .bool false] 67)).alloc (.cells #[.string ⟨#[]⟩, .bool false] 43)) := by
    have h1 := heap_alloc_new (w.alloc (.cells #[.slice none 0 0, .int .i64 0, .bool false] 67)) (.cells #[.string ⟨#[]⟩, .bool false] 43)
    refine ⟨⟨_, (new_rd w).touch ((Touch.refl Nothing _).alloc _) (fun q => q) (fun _ _ q => q), fun k hk => by simp [Value.ownBlock] at hk⟩, ⟨⟨#[]⟩, by simpa using h1, rfl, Nat.zero_le _⟩,
      ((Below.refl _ _).alloc (Nat.le_refl _) _).alloc (by simp) _, by simp⟩
  replace hD0 := Lib.hid hD0
  go_enter Try.func7, Try.ntmps7
  go_wp2_with (first
    | (go_at_call 12; refine (new_any _).mono ?_; rintro e w1 ⟨rfl, rfl⟩)
    | (go_at_call 11; refine (works_any _).mono ?_; rintro e w2 ⟨rfl, hb2⟩))
  have hD2 := Lib.hid (hD0.out.keep (Touch.ofBelow0 hb2))
  clear hD0 hb2
  go_outline
  go_loopw [7] (fun i wr => ∃ (k : Nat) (s : St), k ≤ ts.length ∧ i = .int .i64 (k : Int) ∧ Duo w s s wr) (fun i _ => ts.length - (intOf i).toNat)
  case atStart => exact ⟨0, _, Nat.zero_le _, rfl, hD2.out⟩
  case round =>
    obtain ⟨k, s, hk, rfl, hD⟩ := hrel
    by_cases hlt : k < ts.length
    · by_cases h100 : k < 100
      · obtain ⟨g, o, rfl, hc⟩ := hsl'.out.2 k hlt
        have hcw : ∀ w2, Below w.heap.size w w2 → w2.cell? ⟨g, o + k, none⟩ = some (.string ts[k]) := fun w2 h2 => (Touch.ofBelow h2).cell hc (by have := World.block_lt_of_cell? w _ hc; simpa using this)
        obtain ⟨t, ht⟩ : ∃ t, t = ts[k] := ⟨_, rfl⟩
        rw [← ht] at hcw
        have htz : t.size ≤ 9223372036854775807 := by rw [ht]; exact hz.out _ (List.getElem_mem _)
        replace htz := Lib.hid htz
        replace hcw := Lib.hid hcw
        have ht' := Lib.hid ht
        clear ht hc
        obtain ⟨sv, hrd, hsv⟩ := hD.rd
        replace hsv := Lib.hid hsv
        obtain ⟨⟨e1, s1⟩, htk⟩ : ∃ r, take s (tx t) = r := ⟨_, rfl⟩
        obtain ⟨⟨e2, s2⟩, htf⟩ : ∃ r, take s (tx ffs) = r := ⟨_, rfl⟩
        replace htk := Lib.hid htk
        replace htf := Lib.hid htf
        go_upto_region 11 with (first
          | (go_at_call 17; refine (fork_any hrd).mono ?_; rintro e w3 ⟨g3, sv3, rfl, hrd3, ht3, hg3, hsv3⟩; replace hsv3 := Lib.hid hsv3)
          | (go_at_call 13; refine (take_is hrd3 (c := ffs) (by decide) htf.out).mono ?_; rintro e w4 ⟨rfl, hp4⟩; obtain ⟨sv4, _, ht4, _⟩ := hp4; have hD4 := hD.keep (touch_new ht3 ht4 (fun j q => q.elim (fun q => by omega) (hsv3.out j))))
          | (go_at_call 18; refine (rfork_any hD4.rr).mono ?_; rintro e w5 ⟨g5, rfl, hrr5, ht5, hg5⟩; have hD5 := hD4.keep ht5)
          | (go_at_call 19; refine (rtake_is hrr5 (c := ffs) (by decide) htf.out).mono ?_; rintro e w6 ⟨rfl, hrr6, ht6⟩; have hD6 := hD4.keep (touch_new ht5 ht6 (fun j q => by omega))))
        go_outline
        have hc6 := hcw.out w6 hD6.hb
        replace hD6 : Duo w s s w6.drew := hD6.keep ((Touch.refl Nothing _).drew)
        obtain ⟨sv6, hrd6, hsv6⟩ := hD6.rd
        replace hsv6 := Lib.hid hsv6
        have hD6' := Lib.hid hD6
        clear hD hrd hrd3 hrr5 hrr6 hD4 hD5 ht3 ht4 ht5 ht6 hsv hsv3 hg3 hg5
        go_cut [67] (fun v wx => v = .bool false ∧ Duo w s1 s1 wx)
        case first =>
          go_region_with (first
            | (go_at_call 13; refine (take_is hrd6 (c := t) htz.out htk.out).mono ?_; rintro e w7 ⟨rfl, hp7⟩; have hD7 := hD6.r hsv6.out hp7; have hc7 := hcw.out w7 hD7.hb; obtain ⟨sv7, hrd7, hsv7⟩ := hD7.rd; replace hsv7 := Lib.hid hsv7; clear hD6 hrd6 hp7)
            | (go_at_call 19; refine (rtake_is hD7.rr (c := t) htz.out htk.out).mono ?_; rintro e w8 ⟨rfl, hp8⟩; have hD8 := hD7.d hp8; obtain ⟨t8, hc8, hz8⟩ := hD8.rr.have; have hzb := ne_len hz8; obtain ⟨sv8, hrd8, hsv8⟩ := hD8.rd; replace hsv8 := Lib.hid hsv8; clear hD7 hrd7 hp8)
            | (go_at_call 15; refine (waits_any hrd8).mono ?_; rintro e w9 ⟨rfl, nq, rfl⟩))
          all_goals (go_wp2_with fail; go_meet; exact ⟨rfl, hD8.keep (Touch.drewN (Touch.refl Nothing _) _)⟩)
        case rest =>
          obtain ⟨rfl, hDc⟩ := hcut
          clear hD6 hc6 hrd6 hsv6 hD6'
          go_wp2
          clear hcw htk htf ht' htz
          go_loopw [9] (fun jv wx => ∃ (j : Nat) (q : St), j ≤ 20 ∧ jv = .int .i64 (j : Int) ∧ Duo w q q wx) (fun jv _ => 20 - (intOf jv).toNat)
          case atStart => exact ⟨0, _, by omega, rfl, hDc⟩
          case round =>
            obtain ⟨j, q, hj, rfl, hDq⟩ := hrel
            by_cases hka : k < zs.length
            · obtain ⟨g1, o1, rfl, hca⟩ := hsi.out k hka
              have hcq := (Touch.ofBelow hDq.hb).cell hca (by have := World.block_lt_of_cell? w _ hca; simpa using this)
              obtain ⟨z, hz'⟩ : ∃ z, z = zs[k] := ⟨_, rfl⟩
              rw [← hz'] at hcq
              clear hca hz'
              by_cases hjz : (j : Int) < z
              · by_cases h20 : j < 20
                · obtain ⟨⟨⟨l1, b1⟩, q1⟩, hnx⟩ : ∃ r, next q = r := ⟨_, rfl⟩
                  replace hnx := Lib.hid hnx
                  obtain ⟨tt, htt⟩ : ∃ tt : ByteArray, tt = ⟨l1.toArray⟩ := ⟨_, rfl⟩
                  replace htt := Lib.hid htt
                  have hb1 : (b1 != b1) = false := by simp
                  obtain ⟨sv7, hrd7, hsv7⟩ := hDq.rd
                  replace hsv7 := Lib.hid hsv7
                  go_upto_region 18 with (first
                    | (go_at_call 16; refine (next_is2 hrd7 hnx.out htt.out).mono ?_; rintro e w8 ⟨rfl, hp8⟩; have hD8 := hDq.r hsv7.out hp8; clear hp8)
                    | (go_at_call 20; refine (rnext_is2 hD8.rr hnx.out htt.out).mono ?_; rintro e w9 ⟨rfl, hp9⟩; have hD9 := hD8.d hp9))
                  obtain ⟨t9, hc9, hz9⟩ := hD9.rr.have
                  have hzb := ne_len hz9
                  obtain ⟨sv9, hrd9, hsv9⟩ := hD9.rd
                  replace hsv9 := Lib.hid hsv9
                  have hwq := fun n => waits_quiet hrd9 n
                  clear hrd7 hp9 hD8 hDq hrd9
                  go_quiet ((go_at_call 15; exact hwq _))
                  go_wp2
                  exact ⟨⟨j + 1, q1, by omega, by simp, hD9.keep (Touch.drewN (Touch.refl Nothing _) _)⟩, by simp [intOf]; omega⟩
                · go_wp2
                  exact ⟨⟨k + 1, q, by omega, by simp, hDq⟩, by simp [intOf]; omega⟩
              · go_wp2
                exact ⟨⟨k + 1, q, by omega, by simp, hDq⟩, by simp [intOf]; omega⟩
            · go_wp2
              exact ⟨⟨k + 1, q, by omega, by simp, hDq⟩, by simp [intOf]; omega⟩
      · go_wp2
        go_ret
        exact ⟨rfl, hD.hb⟩
    · go_wp2
      go_ret
      exact ⟨rfl, hD.hb⟩

end Go.Proofs.Ytoegkcjclgmnbaa
