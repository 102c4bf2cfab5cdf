/-
  The reference's Clamped, Clamp, Times, Base, Public, Shared, walked: they answer as the program's do.
  The laws CurveTimes, CurveShared and CurveChains, walked; the reference's Chain.
-/
import Derived.Test.YtfnmnmjpcamkiaaRgc
import Derived.Test.YtfnmnmjpcamkiaaBi1
import Derived.Test.YtfnmnmjpcamkiaaRf9
import Derived.Test.YtfnmnmjpcamkiaaCl6
namespace Go.Proofs.Ytfnmnmjpcamkiaa
open Go.RowKit
set_option linter.unusedVariables false
set_option linter.unusedSimpArgs false

theorem enc_list {l : List UInt8} (h : l.length = 32) : enc ((decL l : Nat) : Int) = ⟨l.toArray⟩ := by
  have := enc_dec ⟨l.toArray⟩ (size_toArray h)
  exact this

theorem clamp_ends (a b c d : UInt8) (m : List UInt8) (hm : m.length = 30) (hc : c.toNat = a.toNat / 8 * 8) (hd : d.toNat = b.toNat % 64 + 64) :
    enc ((clampN (decL (a :: m ++ [b])) : Nat) : Int) = ⟨(c :: m ++ [d]).toArray⟩ := by
  rw [← enc_list (len_ends c d hm)]
  congr 2
  obtain ⟨k, hk, h⟩ := decL_ends a b m hm
  have := a.toNat_lt
  have := b.toNat_lt
  rw [h, h, hc, hd]
  unfold clampN
  omega

theorem byteOf_int (v : Int) (h0 : 0 ≤ v) (h1 : v < 256) : ∃ b : UInt8, v = (b.toNat : Int) := by
  obtain ⟨n, rfl⟩ := Int.eq_ofNat_of_zero_le h0
  obtain ⟨b, hb⟩ := byteOf_lt (v := n) (by omega)
  exact ⟨b, by rw [hb]⟩

set_option maxRecDepth 100000 in
theorem Clamped_ref (w : World) (s : ByteArray) (hs : s.size = 32) : Calls Try.prog 71 #[.string s] w fun r w' => r = .returned (.string (enc ((clampN (decL s.data.toList) : Nat) : Int))) ∧ Touch Nothing w w' := by
  obtain ⟨x0, x31, mx, hmx, hl⟩ := ends32 s.data.toList hs
  obtain ⟨c0, hc0⟩ := byteOf_int ((x0.toNat : Int) / 8 * 8) (by omega) (by have := x0.toNat_lt; omega)
  obtain ⟨c31, hc31⟩ := byteOf_int ((x31.toNat : Int) % 64 + 64) (by omega) (by omega)
  have hfin := clamp_ends x0 x31 c0 c31 mx hmx (by omega) (by omega)
  obtain ⟨L, hL⟩ : ∃ L, L = x0 :: mx ++ [x31] := ⟨_, rfl⟩
  rw [hl, hfin]
  have sX : (L.set 0 c0).set 31 c31 = c0 :: mx ++ [c31] := by rw [hL, set_first, set_last _ _ _ _ hmx]
  have lX : L.length = 32 := by rw [hL]; exact len_ends _ _ hmx
  obtain ⟨fin, efin⟩ : ∃ f : ByteArray, f = ⟨(c0 :: mx ++ [c31]).toArray⟩ := ⟨_, rfl⟩
  have dfin : fin.data.toList = c0 :: mx ++ [c31] := by rw [efin]
  rw [← efin]
  have bX := by_new w s
  rw [hl, ← hL] at bX
  have f1 : (Lib.bytesWorld w 5 s).cell? ⟨w.heap.size, 0, none⟩ = some (.int .u8 (x0.toNat : Int)) := by
    have := bX.cell 0 (by omega)
    rw [this]
    subst hL
    rfl
  have z1 := bX.frz 0 (by omega)
  have bX1 := bX.set 0 c0 (congrArg (Value.int .u8) hc0)
  have f2 : ((Lib.bytesWorld w 5 s).setCell ⟨w.heap.size, 0, none⟩ (.int .u8 ((x0.toNat : Int) / 8 * 8))).cell? ⟨w.heap.size, 31, none⟩ = some (.int .u8 (x31.toNat : Int)) := by
    have := bX1.cell 31 (by rw [List.length_set]; omega)
    rw [this]
    have e : (L.set 0 c0)[31]'(by rw [List.length_set]; omega) = x31 := by
      rw [List.getElem_set_ne (by decide)]
      subst hL
      exact ends_at31 x0 x31 mx hmx _
    rw [e]
    rfl
  have z2 := bX1.frz 31 (by rw [List.length_set]; omega)
  have bX2 := bX1.set 31 c31 (congrArg (Value.int .u8) hc31)
  rw [sX] at bX2
  obtain ⟨cX, ecX⟩ : ∃ c, c = grownCap w s.size 0 5 := ⟨_, rfl⟩
  have v1 := bX2.conv (len_ends c0 c31 hmx) cX dfin
  have kx := byteConv w s
  rw [← ecX, hs] at kx
  have tend : Touch Nothing w _ := ((touch_bytesWorld w s).trans (touch_byte _ w.heap.size 0 (.int .u8 ((x0.toNat : Int) / 8 * 8))) (fun i hi q => by omega)).trans (touch_byte _ w.heap.size 31 (.int .u8 ((x31.toNat : Int) % 64 + 64))) (fun i hi q => by omega)
  replace bX := Lib.hid bX
  replace bX1 := Lib.hid bX1
  replace bX2 := Lib.hid bX2
  replace hc0 := Lib.hid hc0
  replace hc31 := Lib.hid hc31
  replace sX := Lib.hid sX
  replace dfin := Lib.hid dfin
  replace tend := Lib.hid tend
  replace hl := Lib.hid hl
  replace hL := Lib.hid hL
  clear hfin efin ecX lX
  have hx0 := x0.toNat_lt
  have hx1 := x31.toNat_lt
  go_enter Try.func71, Try.ntmps71
  go_wp2_with (first | (rewrite [v1]))
  go_ret
  exact ⟨rfl, tend.out⟩

set_option maxRecDepth 100000 in
theorem Clamp_ref (w : World) (k : ByteArray) : Calls Try.prog 39 #[.string k] w fun r w' => r = .returned (.tuple #[.string (clampR k).1, .int .i64 (clampR k).2]) ∧ Touch Nothing w w' := by
  obtain ⟨x, hx⟩ : ∃ x, x = clampR k := ⟨_, rfl⟩
  rw [← hx]
  unfold clampR at hx
  by_cases hk : k.size = 32
  · rw [if_pos hk] at hx
    have hC := Lib.hid (fun w => Clamped_ref w k hk)
    have e1 : ((k.size : Int) == 32) = true := by simp [hk]
    have e2 : ((k.size : Int) != 32) = false := by simp [hk]
    have e5 : (k.size : Int) = 32 := by omega
    replace hx := Lib.hid hx
    clear hk
    go_enter Try.func39, Try.ntmps39
    go_wp2_with (first | (go_at_call 71; refine (hC.out _).mono ?_; rintro r w2 ⟨rfl, ht⟩))
    go_ret2
    rw [hx.out]
    exact ⟨rfl, ht⟩
  · rw [if_neg hk] at hx
    subst hx
    have e4 : ((k.size : Int) != 32) = true := by simp; omega
    have e6 : ¬ (k.size : Int) = 32 := by omega
    clear hk
    go_enter Try.func39, Try.ntmps39
    go_wp2
    go_ret2
    exact ⟨rfl, Touch.refl _ _⟩

theorem decL_enc (n : Nat) (h : n < 57896044618658097711785492504343953926634992332820282019728792003956564819968) : decL (enc (n : Int)).data.toList = n := by
  have hd := dec_enc ((n : Nat) : Int) (by omega) (by omega)
  unfold dec at hd
  omega

theorem dec_top (y0 y31 d31 : UInt8) (my : List UInt8) (hm : my.length = 30) (h : d31.toNat = y31.toNat % 128) :
    decL (y0 :: my ++ [d31]) = decL (y0 :: my ++ [y31]) % 57896044618658097711785492504343953926634992332820282019728792003956564819968 := by
  obtain ⟨k, hk, he⟩ := decL_ends y0 y31 my hm
  have := y0.toNat_lt
  rw [he, he, h]
  omega

set_option maxRecDepth 100000 in
theorem times32_ref (w : World) (k u : ByteArray) (hk : k.size = 32) (hu : u.size = 32) : Calls Try.prog 37 #[.string k, .string u] w fun r w' => r = .returned (.tuple #[.string (timesB k u), .int .i64 0]) ∧ Touch Nothing w w' := by
  obtain ⟨y0, y31, my, hmy, hl⟩ := ends32 u.data.toList hu
  obtain ⟨d31, hd31⟩ := byteOf_int ((y31.toNat : Int) % 128) (by omega) (by omega)
  have hdec := dec_top y0 y31 d31 my hmy (by omega)
  obtain ⟨m, hm⟩ : ∃ m : Nat, m = ((dec u % 57896044618658097711785492504343953926634992332820282019728792003956564819968) % PP).toNat := ⟨_, rfl⟩
  obtain ⟨c, hc⟩ : ∃ c : ByteArray, c = enc ((clampN (decL k.data.toList) : Nat) : Int) := ⟨_, rfl⟩
  have hres : timesB k u = enc ((timesN m (decL c.data.toList) : Nat) : Int) := by
    rw [timesB_eq, ← hm, hc, decL_enc _ (clampN_lt _)]
  have hpos : 0 ≤ dec u % 57896044618658097711785492504343953926634992332820282019728792003956564819968 % PP := Int.emod_nonneg _ (by decide)
  have hmv : (m : Int) = dec u % 57896044618658097711785492504343953926634992332820282019728792003956564819968 % PP := by rw [hm]; omega
  have hmq : m < qP := by
    have := Int.emod_lt_of_pos (dec u % 57896044618658097711785492504343953926634992332820282019728792003956564819968) (show 0 < PP by decide)
    rw [← qP_int] at this
    rw [← qP_int] at hmv
    omega
  have hdu : dec u = (decL (y0 :: my ++ [y31]) : Int) := by unfold dec; rw [hl]
  obtain ⟨u2, hu2⟩ : ∃ s : ByteArray, s = ⟨(y0 :: my ++ [d31]).toArray⟩ := ⟨_, rfl⟩
  have du2 : u2.data.toList = y0 :: my ++ [d31] := by rw [hu2]
  have zu2 : u2.size = 32 := by rw [hu2]; exact size_toArray (len_ends _ _ hmy)
  have hdu2 : dec u2 % PP = (m : Int) := by
    rw [hmv]
    have e1 : dec u2 = (decL (y0 :: my ++ [d31]) : Int) := by unfold dec; rw [du2]
    have e2 : (decL (y0 :: my ++ [d31]) : Int) = (decL (y0 :: my ++ [y31]) : Int) % 57896044618658097711785492504343953926634992332820282019728792003956564819968 := by omega
    rw [e1, hdu, e2]
  have hR := fun w => reduce_yes_ref w u2 (by omega)
  rw [hdu2] at hR
  unfold okV at hR
  have hO := fun w => Of_ref w (enc (m : Int)) (enc_size _)
  have hmi : (m : Int) < 57896044618658097711785492504343953926634992332820282019728792003956564819949 := by unfold qP at hmq; omega
  rw [dec_enc (m : Int) (by omega) (by omega)] at hO
  have hO2 : ∀ w, Calls Try.prog 60 #[.string (enc (m : Int))] w fun r w' => r = .returned (numV (cN m)) ∧ Touch Nothing w w' := hO
  have hC := fun w => Clamped_ref w k hk
  rw [← hc] at hC
  have hL := fun w => ladder_ref w c m (by rw [hc]; exact enc_size _) hmq
  obtain ⟨t, ht⟩ : ∃ t, t = timesN m (decL c.data.toList) := ⟨_, rfl⟩
  have htq : t < qP := by rw [ht]; unfold timesN; exact nmul_lt _ _
  have hti : (t : Int) < 57896044618658097711785492504343953926634992332820282019728792003956564819949 := by unfold qP at htq; omega
  have hB : ∀ w, Calls Try.prog 56 #[numV (cN t)] w fun r w' => r = .returned (.string (enc (t : Int))) ∧ Touch Nothing w w' := fun w => Bytes_ref w t (by omega) (by omega)
  rw [← ht] at hL hres
  rw [hres]
  have bX := by_new w u
  rw [hl] at bX
  have f1 : (Lib.bytesWorld w 5 u).cell? ⟨w.heap.size, 31, none⟩ = some (.int .u8 (y31.toNat : Int)) := by
    have := bX.cell 31 (by rw [len_ends _ _ hmy]; omega)
    rw [this, ends_at31 y0 y31 my hmy]
    rfl
  have z1 := bX.frz 31 (by rw [len_ends _ _ hmy]; omega)
  have bX2 := bX.set 31 d31 (congrArg (Value.int .u8) hd31)
  rw [set_last _ _ _ _ hmy] at bX2
  obtain ⟨cX, ecX⟩ : ∃ c, c = grownCap w u.size 0 5 := ⟨_, rfl⟩
  have v1 := bX2.conv (len_ends y0 d31 hmy) cX du2
  have kx := byteConv w u
  rw [← ecX, hu] at kx
  have tend : Touch Nothing w _ := (touch_bytesWorld w u).trans (touch_byte _ w.heap.size 31 (.int .u8 ((y31.toNat : Int) % 128))) (fun i hi q => by omega)
  have e1 : ((k.size : Int) == 32) = true := by simp [hk]
  have e2 : ((k.size : Int) != 32) = false := by simp [hk]
  have e3 : ((u.size : Int) == 32) = true := by simp [hu]
  have e4 : ((u.size : Int) != 32) = false := by simp [hu]
  have e5 : (k.size : Int) = 32 := by omega
  have e6 : (u.size : Int) = 32 := by omega
  replace bX := Lib.hid bX
  replace bX2 := Lib.hid bX2
  replace tend := Lib.hid tend
  replace hR := Lib.hid hR
  replace hO2 := Lib.hid hO2
  replace hC := Lib.hid hC
  replace hL := Lib.hid hL
  replace hB := Lib.hid hB
  obtain ⟨em, hem⟩ : ∃ e : ByteArray, e = enc (m : Int) := ⟨_, rfl⟩
  rw [← hem] at hR hO2
  clear hO hres hdec hdu hdu2 hmv hm hc hu2 du2 zu2 hl ecX hk hu hpos hmi hti hem ht htq hmq hd31 hmy
  go_enter Try.func37, Try.ntmps37
  go_wp2_with (first | (rewrite [v1]) | (go_at_call 20; refine (hR.out _).mono ?_; rintro r wR ⟨rfl, tR⟩) | (go_at_call 71; refine (hC.out _).mono ?_; rintro r wC ⟨rfl, tC⟩) | (go_at_call 60; refine (hO2.out _).mono ?_; rintro r wO ⟨rfl, tO⟩) | (go_at_call 70; refine (hL.out _).mono ?_; rintro r wL ⟨rfl, tL⟩) | (go_at_call 56; refine (hB.out _).mono ?_; rintro r wB ⟨rfl, tB⟩))
  go_ret2
  exact ⟨rfl, ((((tend.out.trans' tR).trans' tC).trans' tO).trans' tL).trans' tB⟩

set_option maxRecDepth 100000 in
theorem TimesC_ref (w : World) (k u : ByteArray) : Calls Try.prog 37 #[.string k, .string u] w fun r w' => r = .returned (.tuple #[.string (timesR k u).1, .int .i64 (timesR k u).2]) ∧ Touch Nothing w w' := by
  obtain ⟨x, hx⟩ : ∃ x, x = timesR k u := ⟨_, rfl⟩
  rw [← hx]
  unfold timesR at hx
  by_cases hk : k.size = 32
  · by_cases hu : u.size = 32
    · rw [if_pos ⟨hk, hu⟩] at hx
      rw [hx]
      exact times32_ref w k u hk hu
    · rw [if_neg (fun h => hu h.2)] at hx
      subst hx
      have e1 : ((k.size : Int) == 32) = true := by simp [hk]
      have e2 : ((k.size : Int) != 32) = false := by simp [hk]
      have e4 : ((u.size : Int) != 32) = true := by simp; omega
      have e5 : (k.size : Int) = 32 := by omega
      have e6 : ¬ (u.size : Int) = 32 := by omega
      clear hk hu
      go_enter Try.func37, Try.ntmps37
      go_wp2
      go_ret2
      exact ⟨rfl, Touch.refl _ _⟩
  · rw [if_neg (fun h => hk h.1)] at hx
    subst hx
    have e4 : ((k.size : Int) != 32) = true := by simp; omega
    have e6 : ¬ (k.size : Int) = 32 := by omega
    clear hk
    go_enter Try.func37, Try.ntmps37
    go_wp2
    go_ret2
    exact ⟨rfl, Touch.refl _ _⟩

set_option maxRecDepth 100000 in
theorem Base_ref (w : World) : Calls Try.prog 78 #[] w fun r w' => r = .returned (.string (enc 9)) ∧ Touch Nothing w w' := by
  have hB : ∀ w, Calls Try.prog 56 #[.agg #[.int .i64 9, .int .i64 0, .int .i64 0, .int .i64 0, .int .i64 0, .int .i64 0, .int .i64 0, .int .i64 0, .int .i64 0, .int .i64 0]] w fun r w' => r = .returned (.string (enc 9)) ∧ Touch Nothing w w' := fun w => by
    rw [byte_lit 9 (by decide) (by decide)]
    exact Bytes_ref w 9 (by decide) (by decide)
  replace hB := Lib.hid hB
  go_enter Try.func78, Try.ntmps78
  go_wp2_with (first | (go_at_call 56; refine (hB.out _).mono ?_; rintro r w2 ⟨rfl, ht⟩))
  go_ret
  exact ⟨rfl, ht⟩

set_option maxRecDepth 100000 in
theorem Public_ref (w : World) (k : ByteArray) : Calls Try.prog 47 #[.string k] w fun r w' => r = .returned (.tuple #[.string (timesR k (enc 9)).1, .int .i64 (timesR k (enc 9)).2]) ∧ Touch Nothing w w' := by
  have hT := Lib.hid (fun w2 => TimesC_ref w2 k (enc 9))
  have hN := Lib.hid (fun w2 => Base_ref w2)
  go_enter Try.func47, Try.ntmps47
  go_wp2_with (first | (go_at_call 78; refine (hN.out _).mono ?_; rintro r w2 ⟨rfl, ht⟩) | (go_at_call 37; refine (hT.out _).mono ?_; rintro r w3 ⟨rfl, ht3⟩))
  go_ret2
  exact ⟨rfl, ht.trans' ht3⟩

set_option maxRecDepth 100000 in
theorem Shared_ref (w : World) (k u : ByteArray) : Calls Try.prog 45 #[.string k, .string u] w fun r w' => r = .returned (.tuple #[.string (sharedR k u).1, .int .i64 (sharedR k u).2]) ∧ Touch Nothing w w' := by
  have hT := Lib.hid (fun w2 => TimesC_ref w2 k u)
  have hN : ∀ w, Calls Try.prog 56 #[.agg #[.int .i64 0, .int .i64 0, .int .i64 0, .int .i64 0, .int .i64 0, .int .i64 0, .int .i64 0, .int .i64 0, .int .i64 0, .int .i64 0]] w fun r w' => r = .returned (.string (enc 0)) ∧ Touch Nothing w w' := fun w => by
    rw [byte_lit 0 (by decide) (by decide)]
    exact Bytes_ref w 0 (by decide) (by decide)
  replace hN := Lib.hid hN
  obtain ⟨x, hx⟩ : ∃ x, x = sharedR k u := ⟨_, rfl⟩
  rw [← hx]
  unfold sharedR at hx
  obtain ⟨⟨s, e⟩, hy⟩ : ∃ y, y = timesR k u := ⟨_, rfl⟩
  rw [← hy] at hx hT
  obtain ⟨z, hz⟩ : ∃ z, z = enc 0 := ⟨_, rfl⟩
  rw [← hz] at hx hN
  clear hy hz
  simp only [] at hx
  by_cases he : e = 0
  · subst he
    rw [if_pos rfl] at hx
    by_cases hs : s = z
    · rw [if_pos hs] at hx
      subst hs
      subst hx
      go_enter Try.func45, Try.ntmps45
      go_wp2_with (first | (go_at_call 37; refine (hT.out _).mono ?_; rintro r w3 ⟨rfl, ht3⟩) | (go_at_call 56; refine (hN.out _).mono ?_; rintro r w2 ⟨rfl, ht⟩))
      go_ret2
      exact ⟨rfl, ht3.trans' ht⟩
    · rw [if_neg hs] at hx
      subst hx
      have hb := tl_false hs
      clear hs
      go_enter Try.func45, Try.ntmps45
      go_wp2_with (first | (go_at_call 37; refine (hT.out _).mono ?_; rintro r w3 ⟨rfl, ht3⟩) | (go_at_call 56; refine (hN.out _).mono ?_; rintro r w2 ⟨rfl, ht⟩))
      go_ret2
      exact ⟨rfl, ht3.trans' ht⟩
  · rw [if_neg he] at hx
    subst hx
    have e1 : (e == 0) = false := by simp [he]
    have e2 : (e != 0) = true := by simp [he]
    go_enter Try.func45, Try.ntmps45
    go_wp2_with (first | (go_at_call 37; refine (hT.out _).mono ?_; rintro r w3 ⟨rfl, ht3⟩) | (go_at_call 56; refine (hN.out _).mono ?_; rintro r w2 ⟨rfl, ht⟩))
    go_ret2
    exact ⟨rfl, ht3⟩

end Go.Proofs.Ytfnmnmjpcamkiaa

namespace Go.Proofs.Ytfnmnmjpcamkiaa
open Go.RowKit
set_option linter.unusedVariables false
set_option linter.unusedSimpArgs false

set_option maxRecDepth 100000 in
set_option maxHeartbeats 800000 in
theorem curveTimes_walk (w : World) (k u : ByteArray) : Calls Try.prog 11 #[.string k, .string u] w fun r w' => r = .returned (.bool true) ∧ Touch Nothing w w' := by
  have hA := fun w => Times_lay w k u
  have hB := fun w => TimesC_ref w k u
  have hC := fun w => Clamp_lay w k
  have hD := fun w => Clamp_ref w k
  obtain ⟨⟨x, e⟩, hx⟩ : ∃ y, y = timesR k u := ⟨_, rfl⟩
  obtain ⟨⟨y, f⟩, hy⟩ : ∃ y, y = clampR k := ⟨_, rfl⟩
  rw [← hx] at hA hB
  rw [← hy] at hC hD
  simp only [] at hA hB hC hD
  clear hx hy
  have e1 := tl_true (show x = x from rfl)
  have e2 := tl_true (show y = y from rfl)
  have e3 : (e == e) = true := by simp
  have e4 : (f == f) = true := by simp
  have hW := Lib.hid (fun w => curveWorks_any w)
  replace hA := Lib.hid hA
  replace hB := Lib.hid hB
  replace hC := Lib.hid hC
  replace hD := Lib.hid hD
  go_enter Try.func11, Try.ntmps11
  go_wp2_with (first | (go_at_call 36; refine (hA.out _).mono ?_; rintro r wA ⟨rfl, tA⟩) | (go_at_call 37; refine (hB.out _).mono ?_; rintro r wB ⟨rfl, tB⟩) | (go_at_call 38; refine (hC.out _).mono ?_; rintro r wC ⟨rfl, tC⟩) | (go_at_call 39; refine (hD.out _).mono ?_; rintro r wD ⟨rfl, tD⟩) | (go_at_call 40; refine (hW.out _).mono ?_; rintro r wW ⟨rfl, tW⟩))
  go_ret
  exact ⟨rfl, (((tA.trans' tB).trans' tC).trans' tD).trans' tW⟩

theorem CurveTimes_walk (w : World) (x : ByteArray) (hx : x.size ≤ 140737488351232) (y : ByteArray) (hy : y.size ≤ 140737488351232) :
    Calls Try.prog 11 #[.string x, .string y] w fun r w' => r = .returned (.bool true) ∧ Below w.heap.size w w' :=
  (curveTimes_walk w x y).mono fun r w' q => ⟨q.1, q.2.toBelow0 fun _ _ q => q⟩

set_option maxRecDepth 100000 in
set_option maxHeartbeats 800000 in
theorem curveShared_walk (w : World) (k u : ByteArray) : Calls Try.prog 14 #[.string k, .string u] w fun r w' => r = .returned (.bool true) ∧ Touch Nothing w w' := by
  have hA := fun w => Shared_lay w k u
  have hB := fun w => Shared_ref w k u
  have hC := fun w => Public_lay w k
  have hD := fun w => Public_ref w k
  obtain ⟨⟨x, e⟩, hx⟩ : ∃ y, y = sharedR k u := ⟨_, rfl⟩
  obtain ⟨⟨y, f⟩, hy⟩ : ∃ y, y = timesR k (enc 9) := ⟨_, rfl⟩
  rw [← hx] at hA hB
  rw [← hy] at hC hD
  simp only [] at hA hB hC hD
  clear hx hy
  have e1 := tl_true (show x = x from rfl)
  have e2 := tl_true (show y = y from rfl)
  have e3 : (e == e) = true := by simp
  have e4 : (f == f) = true := by simp
  have hW := Lib.hid (fun w => curveWorks_any w)
  replace hA := Lib.hid hA
  replace hB := Lib.hid hB
  replace hC := Lib.hid hC
  replace hD := Lib.hid hD
  go_enter Try.func14, Try.ntmps14
  go_wp2_with (first | (go_at_call 44; refine (hA.out _).mono ?_; rintro r wA ⟨rfl, tA⟩) | (go_at_call 45; refine (hB.out _).mono ?_; rintro r wB ⟨rfl, tB⟩) | (go_at_call 46; refine (hC.out _).mono ?_; rintro r wC ⟨rfl, tC⟩) | (go_at_call 47; refine (hD.out _).mono ?_; rintro r wD ⟨rfl, tD⟩) | (go_at_call 40; refine (hW.out _).mono ?_; rintro r wW ⟨rfl, tW⟩))
  go_ret
  exact ⟨rfl, (((tA.trans' tB).trans' tC).trans' tD).trans' tW⟩

theorem CurveShared_walk (w : World) (x : ByteArray) (hx : x.size ≤ 140737488351232) (y : ByteArray) (hy : y.size ≤ 140737488351232) :
    Calls Try.prog 14 #[.string x, .string y] w fun r w' => r = .returned (.bool true) ∧ Below w.heap.size w w' :=
  (curveShared_walk w x y).mono fun r w' q => ⟨q.1, q.2.toBelow0 fun _ _ q => q⟩

/-- append([]string{}, ts...). -/
theorem app_copy (w : World) (g : Nat) (a : Option Addr) (c : Nat) (ts : List ByteArray) (h : StrSl w a c ts) (hn : ts.length * 16 ≤ 140737488351232) :
    ∃ (p : Option Addr) (cap : Nat) (w2 : World), (Builtin.append_ #[29, 29] 29 #[.slice (some ⟨g, 0, none⟩) 0 0, .slice a ts.length c]).run Try.prog w = .ok (.slice p ts.length cap) w2 ∧ Touch Nothing w w2 ∧ StrSl w2 p cap ts := by
  have hs := src_strs h
  have hi : (Try.prog.info? 9).map (fun i => (i.zero, i.size, i.bytes)) = some (some (.string ⟨#[]⟩), 1, 16) := by kernel_rfl
  cases hq : Try.prog.info? 9 with
  | none => simp [hq] at hi
  | some i =>
    rw [hq] at hi
    simp only [Option.map_some, Option.some.injEq, Prod.mk.injEq] at hi
    obtain ⟨hz, hsz, hby⟩ := hi
    by_cases h0 : ts = []
    · subst h0
      have hr := run_append_room_src (P := Try.prog) w 29 29 29 9 i Try.underlying29 hq g 0 0 0 (.slice a 0 c) 0 [] (by rw [hsz]; exact hs) (by omega) (fun j hj => by simp at hj) (fun j hj => by simp at hj)
      exact ⟨_, _, _, hr, Touch.refl _ _, by simp, fun i hi => by simp at hi⟩
    · have hpos : 0 < ts.length := List.length_pos_iff.2 h0
      have hold : (Builtin.firstCells i.size 0 (.slice (some ⟨g, 0, none⟩) 0 0)).run Try.prog w.drew = .ok (#[]) w.drew := by
        rw [hsz]
        have := run_firstCells_some (P := Try.prog) w.drew 1 0 ⟨g, 0, none⟩ 0 0 [] rfl (fun j v hv => by simp at hv)
        exact this
      have hr := run_append_grow_src (P := Try.prog) w 29 29 29 9 i _ Try.underlying29 hq hz (some ⟨g, 0, none⟩) 0 0 [] hold (.slice a ts.length c) ts.length (ts.map Value.string) (by rw [hsz]; exact hs) (by omega) (by omega) (growslice_fits (by omega) (by rw [hby]; omega))
      have hge := grownCap_ge w (0 + ts.length) 0 9
      have hn2 := heap_alloc_new w.drew (.cells (([] ++ ts.map Value.string).toArray ++ Builtin.zeroCells (Value.string ⟨#[]⟩).cells (grownCap w (0 + ts.length) 0 9 - (0 + ts.length))) 9)
      rw [Nat.zero_add] at hr hge hn2
      refine ⟨_, _, _, hr, (Touch.refl Nothing w).drew.alloc _, hge, fun j hj => ⟨w.heap.size, 0, rfl, ?_⟩⟩
      rw [Nat.zero_add]
      refine (cell_blk hn2 j).trans ?_
      have hj2 : j < ([] ++ ts.map Value.string).length := by simpa using hj
      rw [Array.getElem?_append_left (by simpa using hj2), List.getElem?_toArray, List.nil_append, List.getElem?_map, List.getElem?_eq_getElem hj]
      rfl

set_option maxRecDepth 100000 in
set_option maxHeartbeats 1600000 in
theorem Chain_ref (w : World) (u : ByteArray) (a : Option Addr) (c : Nat) (ts : List ByteArray) (h : StrSl w a c ts) (hn : ts.length * 16 ≤ 140737488351232) :
    Calls Try.prog 50 #[.string u, .slice a ts.length c] w fun r w' => r = .returned (.tuple #[.string (chainR u ts).1, .int .i64 (chainR u ts).2]) ∧ Touch Nothing w w' := by
  obtain ⟨res, hres⟩ : ∃ x, x = chainR u ts := ⟨_, rfl⟩
  rw [← hres]
  unfold chainR at hres
  have hS0 := Lib.hid h
  clear h
  by_cases hu : u.size = 32
  · have e1 : ((u.size : Int) != 32) = false := by simp [hu]
    have e2 : (u.size : Int) = 32 := by omega
    replace hres := Lib.hid hres
    replace hu := Lib.hid hu
    go_enter Try.func50, Try.ntmps50
    go_wp2
    go_loopw [6] (fun iv wr => ∃ k : Nat, k ≤ ts.length ∧ iv = .int .i64 (k : Int) ∧ wr = w ∧ Hid (∀ j (hj : j < ts.length), j < k → ts[j].size = 32)) (fun iv _ => ts.length - (intOf iv).toNat)
    case atStart => exact ⟨0, Nat.zero_le _, rfl, rfl, Lib.hid fun j hj q => by omega⟩
    case round =>
      obtain ⟨k, hk, rfl, rfl, hD⟩ := hrel
      by_cases hlt : k < ts.length
      · obtain ⟨g, o, ha, hc⟩ := hS0.out.2 k hlt
        subst ha
        have hk0 : (0 : Int) ≤ (k : Int) := by omega
        obtain ⟨s, hs⟩ : ∃ s, s = ts[k] := ⟨_, rfl⟩
        rw [← hs] at hc
        by_cases hz : s.size = 32
        · have e1 : ((s.size : Int) != 32) = false := by simp [hz]
          have e2 : (s.size : Int) = 32 := by omega
          have hD2 : Hid (∀ j (hj : j < ts.length), j < k + 1 → ts[j].size = 32) := Lib.hid fun j hj q => by
            by_cases e : j = k
            · subst e; rw [← hs]; exact hz
            · exact hD.out j hj (by omega)
          replace hs := Lib.hid hs
          clear hz
          go_wp2
          exact ⟨⟨k + 1, by omega, by simp, by first | rfl | trivial, hD2⟩, by simp [intOf]; omega⟩
        · have e1 : ((s.size : Int) != 32) = true := by simp; omega
          have e2 : ¬ (s.size : Int) = 32 := by omega
          have hno := allB_no (xs := u :: ts) (k := k + 1) (by simp; omega) (by rw [List.getElem_cons_succ, ← hs]; exact hz)
          have hfin : res = (noB, 3) := by rw [hres.out, hno]; rfl
          replace hs := Lib.hid hs
          replace hno := Lib.hid hno
          clear hz
          subst hfin
          go_wp2
          go_ret2
          exact ⟨rfl, Touch.refl _ _⟩
      · obtain rfl : k = ts.length := by omega
        have hyes : allB (u :: ts) = true := allB_yes fun j hj => by
          match j with
          | 0 => exact hu.out
          | j + 1 =>
            have hj2 : j < ts.length := by simpa using hj
            rw [List.getElem_cons_succ]
            exact hD.out j hj2 hj2
        have hr2 : res = if 16 < ts.length then (noB, 2) else chainG u ts := by rw [hres.out, if_pos hyes]
        replace hyes := Lib.hid hyes
        by_cases h16 : 16 < ts.length
        · rw [if_pos h16] at hr2
          subst hr2
          have h16i : (16 : Int) < (ts.length : Int) := by omega
          go_wp2
          go_ret2
          exact ⟨rfl, Touch.refl _ _⟩
        · rw [if_neg h16] at hr2
          have h16i : ¬ (16 : Int) < (ts.length : Int) := by omega
          replace hr2 := Lib.hid hr2
          go_wp2
          go_loopw [0, 7] (fun uv iv wr2 => ∃ (k : Nat) (cur : ByteArray), k ≤ ts.length ∧ uv = .string cur ∧ iv = .int .i64 (k : Int) ∧ Hid (chainG cur (ts.drop k) = res) ∧ Touch Nothing wr wr2 ∧ Hid (StrSl wr2 a c ts)) (fun _ iv _ => ts.length - (intOf iv).toNat)
          case atStart => exact ⟨0, u, Nat.zero_le _, rfl, rfl, Lib.hid hr2.out.symm, Touch.refl _ _, hS0⟩
          case round =>
            obtain ⟨k, cur, hk2, rfl, rfl, hG, ht, hS⟩ := hrel
            by_cases hlt : k < ts.length
            · obtain ⟨g, o, ha, hc⟩ := hS.out.2 k hlt
              subst ha
              have hk0 : (0 : Int) ≤ (k : Int) := by omega
              have hG2 := chainG_drop cur ts k hlt
              rw [hG.out] at hG2
              obtain ⟨s, hs⟩ : ∃ s, s = ts[k] := ⟨_, rfl⟩
              rw [← hs] at hc hG2
              have hSh := fun w2 => Shared_ref w2 s cur
              obtain ⟨⟨y, e⟩, hy⟩ : ∃ y, y = sharedR s cur := ⟨_, rfl⟩
              rw [← hy] at hG2 hSh
              simp only [] at hG2 hSh
              replace hs := Lib.hid hs
              replace hSh := Lib.hid hSh
              replace ht := Lib.hid ht
              clear hy
              by_cases he : e = 0
              · subst he
                rw [if_pos rfl] at hG2
                replace hG2 := Lib.hid hG2
                go_wp2_with (first | (go_at_call 45; refine (hSh.out _).mono ?_; rintro r w3 ⟨rfl, ht3⟩))
                exact ⟨⟨k + 1, y, by omega, rfl, by simp, Lib.hid hG2.out.symm, ht.out.trans' ht3, Lib.hid (hS.out.keep ht3 (fun _ _ q => q))⟩, by simp [intOf]; omega⟩
              · rw [if_neg he] at hG2
                have e1 : (e == 0) = false := by simp [he]
                have e2 : (e != 0) = true := by simp [he]
                replace hG2 := Lib.hid hG2
                go_wp2_with (first | (go_at_call 45; refine (hSh.out _).mono ?_; rintro r w3 ⟨rfl, ht3⟩))
                go_ret2
                exact ⟨by rw [hG2.out]; rfl, ht.out.trans' ht3⟩
            · obtain rfl : k = ts.length := by omega
              have hG3 : res = (cur, 0) := by rw [← hG.out, List.drop_length]; rfl
              replace hG3 := Lib.hid hG3
              go_wp2
              go_ret2
              exact ⟨by rw [hG3.out]; rfl, ht⟩
  · have e1 : ((u.size : Int) != 32) = true := by simp; omega
    have e2 : ¬ (u.size : Int) = 32 := by omega
    have hno := allB_no (xs := u :: ts) (k := 0) (by simp) (by rw [List.getElem_cons_zero]; exact hu)
    have hfin : res = (noB, 3) := by rw [hres, hno]; rfl
    subst hfin
    clear hres hno hu
    go_enter Try.func50, Try.ntmps50
    go_wp2
    go_ret2
    exact ⟨rfl, Touch.refl _ _⟩

set_option maxRecDepth 100000 in
set_option maxHeartbeats 1600000 in
theorem curveChains_walk (w : World) (u : ByteArray) (a : Option Addr) (c : Nat) (ts : List ByteArray) (h : StrSl w a c ts) (hn : ts.length * 16 ≤ 140737488351232) :
    Calls Try.prog 16 #[.string u, .slice a ts.length c] w fun r w' => r = .returned (.bool true) ∧ Touch Nothing w w' := by
  have hW := Lib.hid (fun w => curveWorks_any w)
  obtain ⟨p, cap, w2, happ, ht2, hp⟩ := app_copy (w.alloc (.cells #[] 9)) w.heap.size a c ts (h.keep ((Touch.refl Nothing w).alloc _) (fun _ _ q => q)) hn
  have hA := Chain_any w2 u p cap ts hp hn
  have t2 : Touch Nothing w w2 := ((Touch.refl Nothing w).alloc _).trans' ht2
  have hB := fun w3 (t : Touch Nothing w2 w3) => Chain_ref w3 u a c ts (h.keep (t2.trans' t) (fun _ _ q => q)) hn
  obtain ⟨⟨x, e⟩, hx⟩ : ∃ y, y = chainR u ts := ⟨_, rfl⟩
  rw [← hx] at hA hB
  simp only [] at hA hB
  have e1 := tl_true (show x = x from rfl)
  have e3 : (e == e) = true := by simp
  replace hA := Lib.hid hA
  replace hB := Lib.hid hB
  replace happ := Lib.hid happ
  replace t2 := Lib.hid t2
  clear hx h hp ht2
  by_cases h4 : 4 < ts.length
  · have i4 : (4 : Int) < (ts.length : Int) := by omega
    by_cases h16 : ts.length ≤ 16
    · have i16 : (ts.length : Int) ≤ 16 := by omega
      go_enter Try.func16, Try.ntmps16
      go_wp2_with (first | (go_at_call 40; refine (hW.out _).mono ?_; rintro r wW ⟨rfl, tW⟩))
      go_ret
      exact ⟨rfl, tW⟩
    · have i16 : ¬ (ts.length : Int) ≤ 16 := by omega
      go_enter Try.func16, Try.ntmps16
      go_wp2_with (first | refine wpList_append_eq (o := ⟨some 22, _, _, _, _, _⟩) rfl _ _ 29 rfl _ _ rfl rfl _ w2 happ.out ?_ | (go_at_call 49; refine hA.out.mono ?_; rintro r wA ⟨rfl, tA⟩) | (go_at_call 50; refine (hB.out _ tA).mono ?_; rintro r wB ⟨rfl, tB⟩) | (go_at_call 40; refine (hW.out _).mono ?_; rintro r wW ⟨rfl, tW⟩))
      go_ret
      exact ⟨rfl, ((t2.out.trans' tA).trans' tB).trans' tW⟩
  · have i4 : ¬ (4 : Int) < (ts.length : Int) := by omega
    go_enter Try.func16, Try.ntmps16
    go_wp2_with (first | refine wpList_append_eq (o := ⟨some 22, _, _, _, _, _⟩) rfl _ _ 29 rfl _ _ rfl rfl _ w2 happ.out ?_ | (go_at_call 49; refine hA.out.mono ?_; rintro r wA ⟨rfl, tA⟩) | (go_at_call 50; refine (hB.out _ tA).mono ?_; rintro r wB ⟨rfl, tB⟩) | (go_at_call 40; refine (hW.out _).mono ?_; rintro r wW ⟨rfl, tW⟩))
    go_ret
    exact ⟨rfl, ((t2.out.trans' tA).trans' tB).trans' tW⟩

theorem CurveChains_walk (w : World) (x : ByteArray) (hx : x.size ≤ 140737488351232) (v : Value) (ts : List ByteArray) (hv : StrA w v ts) (z : ∀ s ∈ ts, s.size ≤ 9223372036854775807) (l : ts.length * 16 ≤ 140737488351232) :
    Calls Try.prog 16 #[.string x, v] w fun r w' => r = .returned (.bool true) ∧ Below w.heap.size w w' := by
  obtain ⟨a, c, rfl, hsl, hsrc⟩ := hv.sl
  exact (curveChains_walk w x a c ts hsl l).mono fun r w' q => ⟨q.1, q.2.toBelow0 fun _ _ q => q⟩

end Go.Proofs.Ytfnmnmjpcamkiaa
