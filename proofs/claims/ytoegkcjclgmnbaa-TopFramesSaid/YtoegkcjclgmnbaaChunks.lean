/-
  FrameChunks: the walk of the law, from the contracts and the plain law of feeding.
-/
import Derived.Test.YtoegkcjclgmnbaaFeed
import Derived.Deep.RegionWith
import Derived.Deep.DeepCutAuto
import Derived.Deep.QuietTactic
import Derived.BigQuiet
namespace Go.Proofs.Ytoegkcjclgmnbaa
open Go.RowKit
set_option linter.unusedVariables false
set_option linter.unusedSimpArgs false

/-- A row that is owned can be appended. -/
theorem owns_src {w : World} {base : Nat} {e : TypeId} {v : Value} {n : Nat} {xs : List Value} (h : w.ownsRow base e 1 v n xs) (h1 : ∀ u ∈ xs, u.oneCell' = true) : Src w v n 1 xs := by
  have hl : xs.length = n := by have := h.1; simpa using this
  rcases h.2 with ⟨hv, h0⟩ | ⟨g, cap, cur, hv, _, hg, hnc, _, hcs, _⟩
  · exact .inl ⟨hv, h0, List.eq_nil_of_length_eq_zero (by omega)⟩
  · exact .inr ⟨_, cap, hv, by simpa using hl, fun j u hu => by
      have := h.cells (g := g) (by rw [hv]; rfl) j u hu
      simpa [Addr.add_lit] using this, h1⟩

/-- A call of 'all' between. -/
theorem Got.all {w wr w1 : World} {g : Nat} {sv0 sv v va : Value} {ts us : List (List UInt8)} {s s' : St} (h : Got g sv0 w v ts s wr) (hrd : Rd wr g sv s) (h1 : ∀ k, sv.ownBlock = some k → sv0.ownBlock = some k ∨ w.heap.size ≤ k)
    (h2 : ∀ k, v.ownBlock = some k → sv.ownBlock ≠ some k) (hp : Got g sv wr va us s' w1) : Got g sv0 w v ts s' w1 := by
  obtain ⟨sv', q1, q2, q3⟩ := hp.rd
  exact h.call hrd h1 h2 ⟨sv', q1, hp.touch, q2⟩

/-- An append of texts onto what was told. -/
theorem Got.appL {w wr w1 : World} {g : Nat} {sv0 v v' : Value} {ts us : List (List UInt8)} {s : St} (h : Got g sv0 w v ts s wr) {n : Nat} (hn : n = ts.length + us.length)
    (ho : w1.ownsRow 0 9 1 v' n (ts.map strV ++ us.map strV)) (hg : wr.grownBy w1 v.ownBlock) (hv : v'.ownBlock = v.ownBlock ∨ v'.ownBlock = some wr.heap.size) :
    Got g sv0 w v' (ts ++ us) s w1 := by
  subst hn
  obtain ⟨sv, hrd, h1, h2⟩ := h.rd
  have hvlt : ∀ k, v.ownBlock = some k → k < wr.heap.size := fun k hk => (h.own.lt k hk).2
  have hsz := h.touch.size
  have hrl := rd_lt hrd
  have ht : Touch (fun k => v.ownBlock = some k) wr w1 := (Touch.refl _ wr).grown hg fun k _ hk => hk
  have hgv : ∀ k, v'.ownBlock = some k → v.ownBlock = some k ∨ wr.heap.size ≤ k := fun k hk => by
    rcases hv with hv | hv <;> rw [hv] at hk
    · exact .inl hk
    · have e1 := Option.some.inj hk; exact .inr (by omega)
  have hg0 := h.hg
  refine ⟨by simpa using ho, fun k hk => ?_, ⟨sv, hrd.touch ht (fun q => ?_) (fun k hk q => h2 k q hk), h1, fun k hk e => ?_⟩, h.touch.trans ht fun k hk q => ?_, h.hg, h.hs0⟩
  · rcases hgv k hk with q | q
    · exact h.new k q
    · omega
  · have := h.new g q; omega
  · rcases hgv k hk with q | q
    · exact h2 k q e
    · have := hrl.2 k e; omega
  · have := h.new k q; omega

theorem IntA.sl {w : World} {v : Value} {zs : List Int} (h : IntA w v zs) : ∃ A1 c1, v = .slice A1 zs.length c1 ∧ ∀ i (h : i < zs.length), ∃ g o, A1 = some ⟨g, o, none⟩ ∧ w.cell? ⟨g, o + i, none⟩ = some (.int .i64 zs[i]) := by
  rcases h with ⟨rfl, rfl⟩ | ⟨a, c1, rfl, h1, h2⟩
  · exact ⟨_, _, rfl, fun i h => by simp at h⟩
  · refine ⟨_, c1, rfl, fun i h => ?_⟩
    obtain ⟨g, o, rfl⟩ := addr_plain (h2 0 (by omega))
    have := h2 i h
    rw [Addr.add_lit] at this
    exact ⟨g, o, rfl, this⟩

theorem all_is {w : World} {g : Nat} {sv : Value} {s s' : St} (h : Rd w g sv s) {us : List (List UInt8)} (hn : drain mostAll s = (us, s')) :
    Calls Try.prog 14 #[.pointer (some ⟨g, 0, none⟩)] w fun e w' => ∃ va, e = .returned va ∧ Got g sv w va us s' w' := by
  refine (all_any h).mono fun e w' hp => ?_
  unfold AllPost at hp
  rwa [hn] at hp

theorem cut_num (z : Int) {n : Nat} (hn : n ≤ 1048576) : ∃ m : Nat, m ≤ n ∧ wrap64 ((IntKind.u64.wrap z).tmod ((n : Int) + 1)) = (m : Int) := by
  have h0 : 0 ≤ IntKind.u64.wrap z := wrap_u64_nonneg z
  generalize IntKind.u64.wrap z = y at h0 ⊢
  have h1 := Int.tmod_nonneg ((n : Int) + 1) h0
  have h2 := Int.tmod_lt_of_pos y (b := (n : Int) + 1) (by omega)
  refine ⟨(y.tmod ((n : Int) + 1)).toNat, by omega, ?_⟩
  rw [IntWalk.wrap64_in _ (by omega)]
  omega

theorem waits_zero {w : World} {g : Nat} {sv : Value} (h : Rd w g sv ⟨[], false⟩) :
    Calls Try.prog 15 #[.pointer (some ⟨g, 0, none⟩)] w fun e w' => e = .returned (.int .i64 0) ∧ ∃ nq, w' = w.drewN nq := waits_any h

theorem strV_tx (ts : List ByteArray) : (ts.map tx).map strV = ts.map Value.string := by
  rw [List.map_map]
  rfl

theorem chunks_no (w : World) (A : Option Addr) (c : Nat) (ts : List ByteArray) (hs : StrSl w A c ts) (v1 : Value) (hsum : frLen ts ≤ 1099511627776) (he : ofS ts = ([], 2)) :
    Calls Try.prog 4 #[.slice A ts.length c, v1] w fun e w' => e = .returned (.bool true) ∧ Below w.heap.size w w' := by
  have hA : ∀ w2, Below w.heap.size w w2 → Calls Try.prog 9 #[.slice A ts.length c] w2 fun e w' => e = .returned (.tuple #[.string ⟨([] : List UInt8).toArray⟩, .int .i64 2]) ∧ Below w2.heap.size w2 w' := fun w2 h2 => of_is (hs.later h2) (by omega) he rfl
  replace hA := Lib.hid hA
  clear hs he hsum
  go_enter Try.func4, Try.ntmps4
  go_wp2_with (first
    | (go_at_call 11; refine (works_any _).mono ?_; rintro e w1 ⟨rfl, hb1⟩)
    | (go_at_call 9; refine (hA.out _ hb1).mono ?_; rintro e w2 ⟨rfl, hb2⟩; have hb2' := Below.then hb1 hb2))
  go_ret
  exact ⟨rfl, hb2'⟩

theorem chunks_big (w : World) (A : Option Addr) (c : Nat) (ts : List ByteArray) (hs : StrSl w A c ts) (v1 : Value) (hsum : frLen ts ≤ 1099511627776) (he : ofS ts = (fr ts, 0)) (hn : 60 < ts.length) :
    Calls Try.prog 4 #[.slice A ts.length c, v1] w fun e w' => e = .returned (.bool true) ∧ Below w.heap.size w w' := by
  obtain ⟨l, hl⟩ : ∃ l, l = fr ts := ⟨_, rfl⟩
  rw [← hl] at he
  have hA : ∀ w2, Below w.heap.size w w2 → Calls Try.prog 9 #[.slice A ts.length c] w2 fun e w' => e = .returned (.tuple #[.string ⟨l.toArray⟩, .int .i64 0]) ∧ Below w2.heap.size w2 w' := fun w2 h2 => of_is (hs.later h2) (by omega) he rfl
  replace hA := Lib.hid hA
  have hn' : (60 : Int) < (ts.length : Int) := by omega
  clear hs he hsum hl
  go_enter Try.func4, Try.ntmps4
  go_wp2_with (first
    | (go_at_call 11; refine (works_any _).mono ?_; rintro e w1 ⟨rfl, hb1⟩)
    | (go_at_call 9; refine (hA.out _ hb1).mono ?_; rintro e w2 ⟨rfl, hb2⟩; have hb2' := Below.then hb1 hb2))
  go_ret
  exact ⟨rfl, hb2'⟩

set_option maxRecDepth 100000 in
set_option maxHeartbeats 3200000 in
theorem chunks_ok (w : World) (A : Option Addr) (c : Nat) (ts : List ByteArray) (hs : StrSl w A c ts) (v1 : Value) (zs : List Int) (hi : IntA w v1 zs) (hzs : ∀ n ∈ zs, -9223372036854775808 ≤ n ∧ n ≤ 9223372036854775807) (hli : zs.length * 8 ≤ 140737488351232)
    (he : ofS ts = (fr ts, 0)) (hn : ts.length ≤ 60) :
    Calls Try.prog 4 #[.slice A ts.length c, v1] w fun e w' => e = .returned (.bool true) ∧ Below w.heap.size w w' := by
  have h4 := (ofS_ok ts).1 he
  have hsum : frLen ts ≤ 4100 * ts.length := by
    clear he hs hn
    induction ts with
    | nil => simp [frLen]
    | cons a r ih =>
      have ih := ih fun s hs => h4 s (List.mem_cons_of_mem _ hs)
      have := h4 a (List.mem_cons_self ..)
      simp [frLen] at ih ⊢; omega
  have hml : (frames (ts.map tx)).length ≤ 1048576 := by
    have := fr_len ts
    unfold fr at this
    rw [this]; omega
  obtain ⟨x0, hx0⟩ : ∃ x0 : ByteArray, x0 = ⟨(fr ts).toArray⟩ := ⟨_, rfl⟩
  have hA : ∀ w2, Below w.heap.size w w2 → Calls Try.prog 9 #[.slice A ts.length c] w2 fun e w' => e = .returned (.tuple #[.string x0, .int .i64 0]) ∧ Below w2.heap.size w2 w' := fun w2 h2 => hx0 ▸ of_is (hs.later h2) (by omega) he rfl
  have hF0 : Fed (ts.map tx) [] [] (tx x0) := by rw [hx0]; exact Fed.start _
  replace hA := Lib.hid hA
  replace hF0 := Lib.hid hF0
  have hl4 : ∀ t ∈ ts.map tx, t.length ≤ 4096 := fun t ht => by obtain ⟨b, hb, rfl⟩ := List.mem_map.1 ht; rw [tx_len]; exact h4 b hb
  replace hl4 := Lib.hid hl4
  replace hml := Lib.hid hml
  replace hs := Lib.hid hs
  replace hi := Lib.hid hi
  replace hzs := Lib.hid hzs
  have hli' : zs.length ≤ 17592186043904 := by omega
  have hn' : ¬ (60 : Int) < (ts.length : Int) := by omega
  clear hx0 he h4 hsum hli
  go_enter Try.func4, Try.ntmps4
  go_wp2_with (first
    | (go_at_call 11; refine (works_any _).mono ?_; rintro e w1 ⟨rfl, hb1⟩)
    | (go_at_call 9; refine (hA.out _ hb1).mono ?_; rintro e w2 ⟨rfl, hb2⟩; replace hb2 := Below.then hb1 hb2; clear hb1)
    | (go_at_call 12; refine (new_any _).mono ?_; rintro e w3 ⟨rfl, rfl⟩))
  have hG0 := Got.start (new_rd w2)
  have hbw : Below w.heap.size w (w2.alloc (.cells #[.slice none 0 0, .int .i64 0, .bool false] 67)) := hb2.alloc hb2.size _
  have hgw := hb2.size
  obtain ⟨g, hg⟩ : ∃ g, g = w2.heap.size := ⟨_, rfl⟩
  obtain ⟨w3, hw3⟩ : ∃ w3, w3 = w2.alloc (.cells #[.slice none 0 0, .int .i64 0, .bool false] 67) := ⟨_, rfl⟩
  rw [← hg] at hG0 hgw ⊢
  rw [← hw3] at hG0 hbw ⊢
  have hw3z : w.heap.size ≤ w3.heap.size := hbw.size
  clear hw3 hb2 hg
  go_loopw [1, 5, 8, 9] (fun cv xv ov iv wr => ∃ (i : Nat) (zs' : List Int) (x : ByteArray) (b : List UInt8) (out : List (List UInt8)), IntA w cv zs' ∧ (∀ n ∈ zs', -9223372036854775808 ≤ n ∧ n ≤ 9223372036854775807) ∧ zs'.length ≤ 17592186043904 ∧
      xv = .string x ∧ iv = .int .i64 (i : Int) ∧ i ≤ 203 ∧ (202 ≤ i → zs'.length = 0) ∧ (203 ≤ i → x.size = 0) ∧ Got g (.slice none 0 0) w3 ov out ⟨b, false⟩ wr ∧ Fed (ts.map tx) out b (tx x))
    (fun _ _ _ iv _ => 203 - (intOf iv).toNat)
  case atStart => exact ⟨0, zs, x0, [], [], hi.out, hzs.out, hli', rfl, rfl, by omega, by omega, by omega, hG0, hF0.out⟩
  case round =>
    clear hi hzs hli' hF0 hG0
    obtain ⟨i, zs', x, b, out, hi, hzs, hli, rfl, rfl, hi203, hi2, hi3, hG, hF⟩ := hrel
    by_cases hx : 0 < x.size
    · obtain ⟨av, cv, rfl⟩ := owns_slice hG.own
      replace hi := Lib.hid hi
      replace hzs := Lib.hid hzs
      replace hi2 := Lib.hid hi2
      replace hi3 := Lib.hid hi3
      replace hF := Lib.hid hF
      have hxm : x.size ≤ 1048576 := by
        have := hF.out.len.1
        have := hml.out
        rw [tx_len] at *
        omega
      have hom : out.length ≤ 60 := by
        have := hF.out.len.2
        simp at this
        omega
      have hbr : Below w.heap.size w wr := hbw.trans (hG.touch.below hw3z fun k hk q => by rcases q with q | q; omega; simp [Value.ownBlock] at q)
      replace hbr := Lib.hid hbr
      obtain ⟨A1, c1, rfl, hsi⟩ := hi.out.sl
      replace hsi := Lib.hid hsi
      have hi2' : i ≤ 202 := by
        rcases Nat.lt_or_ge i 203 with q | q
        · omega
        · have := hi3.out q; omega
      go_upto_if 43 with (fail)
      go_cut [10] (fun v wx => ∃ m : Nat, m ≤ x.size ∧ Hid (202 ≤ i → m = x.size) ∧ v = .int .i64 (m : Int) ∧ wx = wr)
      case first =>
        by_cases hiz : i < zs'.length
        · have hi202 : ¬ 202 ≤ i := fun q => by have := hi2.out q; omega
          obtain ⟨g1, o1, rfl, hca⟩ := hsi.out i hiz
          have hcq := (Touch.ofBelow hbr.out).cell hca (by have := World.block_lt_of_cell? w _ hca; simpa using this)
          have hzb := hzs.out _ (List.getElem_mem hiz)
          obtain ⟨z, hz'⟩ : ∃ z, z = zs'[i] := ⟨_, rfl⟩
          rw [← hz'] at hcq hzb
          clear hca hz'
          go_wp2_with fail
          go_meet
          obtain ⟨m, hm1, hm2⟩ := cut_num z hxm
          exact ⟨m, hm1, Lib.hid (fun q => absurd q hi202), by rw [hm2], rfl⟩
        · go_wp2_with fail
          go_meet
          exact ⟨x.size, Nat.le_refl _, Lib.hid (fun _ => rfl), rfl, rfl⟩
      case rest =>
        obtain ⟨m, hm, hmi, rfl, rfl⟩ := hcut
        obtain ⟨b2, us, htk, hdr, hF2⟩ := Fed.step (n := mostAll) (c := (tx x).take m) (r := (tx x).drop m) hl4.out hml.out (by simp; unfold mostAll; omega) (by rw [List.take_append_drop]; exact hF.out)
        have hum : us.length ≤ 60 := by
          have := hF2.len.2
          simp at this
          omega
        obtain ⟨sv, hrd, h1, h2⟩ := hG.rd
        have htc : tx (x.extract 0 m) = (tx x).take m := by rw [tx_extract]; simp
        have htd : tx (x.extract m x.size) = (tx x).drop m := by rw [tx_extract, List.take_of_length_le]; simp [tx_len]
        rw [← htc] at htk hdr
        rw [← htd] at hF2
        have hcz : (x.extract 0 m).size ≤ 9223372036854775807 := by rw [ByteArray.size_extract]; omega
        have hdz : (x.extract m x.size).size = x.size - m := by rw [ByteArray.size_extract]; omega
        replace htk := Lib.hid htk
        replace hdr := Lib.hid hdr
        replace hF2 := Lib.hid hF2
        replace hcz := Lib.hid hcz
        replace hdz := Lib.hid hdz
        replace h1 := Lib.hid h1
        replace h2 := Lib.hid h2
        clear htc htd hF
        have hmi' : (m : Int) ≤ (x.size : Int) := by omega
        by_cases h200 : 200 < i
        · have h200' : (200 : Int) < (i : Int) := by omega
          go_wp2_with (first
            | (go_at_call 13; refine (take_is hrd hcz.out htk.out).mono ?_; rintro e w4 ⟨rfl, hp4⟩; have hG4 := hG.call hrd h1.out h2.out hp4; obtain ⟨sv4, hrd4, h14, h24⟩ := hG4.rd; replace h14 := Lib.hid h14; replace h24 := Lib.hid h24)
            | (go_at_call 14; refine (all_is hrd4 hdr.out).mono ?_; rintro e w5 ⟨va, rfl, hp5⟩; have hG5 := hG4.all hrd4 h14.out h24.out hp5; have hso := hp5.own; obtain ⟨av5, cv5, rfl⟩ := owns_slice hso)
            | (at_builtin; refine wpList_app strs rfl (.tmp 61) (.tmp 63) rfl rfl hG5.own rfl (owns_src hso (strV_one _)) rfl rfl (by unfold maxLen; omega) (by omega) ?_; intro v6 w6 ho6 hg6 hv6; have hG6 := hG5.appL rfl ho6 hg6 hv6; obtain ⟨av6, cv6, rfl⟩ := owns_slice ho6))
          have hx3 : 203 ≤ i + 1 → (x.extract m x.size).size = 0 := fun q => by have := hdz.out; have := hmi.out (by omega); omega
          exact ⟨⟨i + 1, [], x.extract m x.size, b2, out ++ us, .inl ⟨rfl, rfl⟩, by simp, by simp, rfl, by simp, by omega, fun _ => rfl, hx3, hG6, hF2.out⟩, by simp [intOf]; omega⟩
        · have h200' : ¬ (200 : Int) < (i : Int) := by omega
          go_wp2_with (first
            | (go_at_call 13; refine (take_is hrd hcz.out htk.out).mono ?_; rintro e w4 ⟨rfl, hp4⟩; have hG4 := hG.call hrd h1.out h2.out hp4; obtain ⟨sv4, hrd4, h14, h24⟩ := hG4.rd; replace h14 := Lib.hid h14; replace h24 := Lib.hid h24)
            | (go_at_call 14; refine (all_is hrd4 hdr.out).mono ?_; rintro e w5 ⟨va, rfl, hp5⟩; have hG5 := hG4.all hrd4 h14.out h24.out hp5; have hso := hp5.own; obtain ⟨av5, cv5, rfl⟩ := owns_slice hso)
            | (at_builtin; refine wpList_app strs rfl (.tmp 61) (.tmp 63) rfl rfl hG5.own rfl (owns_src hso (strV_one _)) rfl rfl (by unfold maxLen; omega) (by omega) ?_; intro v6 w6 ho6 hg6 hv6; have hG6 := hG5.appL rfl ho6 hg6 hv6; obtain ⟨av6, cv6, rfl⟩ := owns_slice ho6))
          have hx3 : 203 ≤ i + 1 → (x.extract m x.size).size = 0 := fun q => by omega
          exact ⟨⟨i + 1, zs', x.extract m x.size, b2, out ++ us, hi.out, hzs.out, hli, rfl, by simp, by omega, fun q => by omega, hx3, hG6, hF2.out⟩, by simp [intOf]; omega⟩
    · have hx0 : tx x = [] := List.eq_nil_of_length_eq_zero (by rw [tx_len]; omega)
      rw [hx0] at hF
      obtain ⟨rfl, rfl⟩ := hF.last
      have hown := hG.own
      rw [List.length_map, strV_tx] at hown
      obtain ⟨av, cv, rfl⟩ := owns_slice hown
      have hbr : Below w.heap.size w wr := hbw.trans (hG.touch.below hw3z fun k hk q => by rcases q with q | q; omega; simp [Value.ownBlock] at q)
      obtain ⟨sv, hrd, _, _⟩ := hG.rd
      have hl1 := Lib.hid (owns_strSl hown)
      have hl2 := Lib.hid (hs.out.later hbr)
      replace hbr := Lib.hid hbr
      obtain ⟨A1, c1, rfl, hsi⟩ := hi.sl
      clear hown hG hx0 hF hi hzs hi2 hi3 hsi
      go_wp2_with (go_at_call 15; refine (waits_zero hrd).mono ?_; rintro e w4 ⟨rfl, nq, rfl⟩)
      go_loopw [82] (fun jv wx => ∃ (j nr : Nat), j ≤ ts.length ∧ jv = .int .i64 (j : Int) ∧ wx = wr.drewN nr) (fun jv _ => ts.length - (intOf jv).toNat)
      case atStart => exact ⟨0, nq, Nat.zero_le _, rfl, rfl⟩
      case round =>
        obtain ⟨j, nr, hj, rfl, rfl⟩ := hrel
        by_cases hjn : j < ts.length
        · obtain ⟨g1, o1, rfl, hc1⟩ := hl1.out.2 j hjn
          obtain ⟨g2, o2, rfl, hc2⟩ := hl2.out.2 j hjn
          obtain ⟨t, ht⟩ : ∃ t, t = ts[j] := ⟨_, rfl⟩
          rw [← ht] at hc1 hc2
          clear ht
          have hjn' : (j : Int) < (ts.length : Int) := by omega
          go_upto_region 25 with (fail)
          go_quiet (fail)
          go_wp2
          exact ⟨⟨j + 1, _, by omega, by simp, rfl⟩, by simp [intOf]; omega⟩
        · go_wp2
          go_ret
          exact ⟨rfl, hbr.out.trans (Touch.below ((Touch.refl Nothing _).drewN _) hbr.out.size (fun _ _ q => q))⟩

theorem FrameChunks_walk (W : World) (v0 : Value) (t0 : List ByteArray) (h0 : StrA W v0 t0) (z0 : ∀ s ∈ t0, s.size ≤ 9223372036854775807) (l0 : t0.length * 16 ≤ 140737488351232) (b0 : strBulk t0 ≤ 1048576)
    (v1 : Value) (t1 : List Int) (h1 : IntA W v1 t1) (z1 : ∀ n ∈ t1, -9223372036854775808 ≤ n ∧ n ≤ 9223372036854775807) (l1 : t1.length * 8 ≤ 140737488351232) (b1 : t1.length ≤ 1048576) :
    Calls Try.prog 4 #[v0, v1] W fun e w' => e = .returned (.bool true) ∧ Below W.heap.size W w' := by
  have q0 := frLen_bulk t0
  obtain ⟨A, ca, rfl, sa, _⟩ := h0.sl
  rcases ofS_cases t0 with ea | ea
  · rcases Nat.lt_or_ge 60 t0.length with hn | hn
    · exact chunks_big W A ca t0 sa v1 (by omega) ea hn
    · exact chunks_ok W A ca t0 sa v1 t1 h1 z1 l1 ea hn
  · exact chunks_no W A ca t0 sa v1 (by omega) ea

end Go.Proofs.Ytoegkcjclgmnbaa
