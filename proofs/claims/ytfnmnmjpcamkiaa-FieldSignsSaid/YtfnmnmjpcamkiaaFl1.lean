/-
  Layer 1: the laws that reach no reference, walked: FieldSigns, FieldSquares, FieldBack, FieldRing.
-/
import Derived.Test.YtfnmnmjpcamkiaaWks
namespace Go.Proofs.Ytfnmnmjpcamkiaa
open Go.RowKit
set_option linter.unusedVariables false
set_option linter.unusedSimpArgs false

theorem addZ_assoc (x y z : Int) : addZ x (addZ y z) = addZ (addZ x y) z := by
  unfold addZ; rw [Int.add_emod_emod, Int.emod_add_emod, Int.add_assoc]
theorem mulZ_assoc (x y z : Int) : mulZ x (mulZ y z) = mulZ (mulZ x y) z := by
  unfold mulZ; rw [Int.mul_emod x, Int.emod_emod, ← Int.mul_emod, Int.mul_emod (x * y % PP), Int.emod_emod, ← Int.mul_emod, Int.mul_assoc]
theorem mulZ_addZ (x y z : Int) : mulZ x (addZ y z) = addZ (mulZ x y) (mulZ x z) := by
  unfold mulZ addZ; rw [Int.mul_emod x, Int.emod_emod, ← Int.mul_emod, ← Int.add_emod, Int.mul_add]
theorem mulZ_one {x : Int} (h : Rng x) : mulZ x 1 = x := by unfold mulZ; rw [Int.mul_one, Int.emod_eq_of_lt h.1 h.2]
theorem addZ_zero {x : Int} (h : Rng x) : addZ x 0 = x := by unfold addZ; rw [Int.add_zero, Int.emod_eq_of_lt h.1 h.2]
theorem subZ_back {x : Int} (y : Int) (h : Rng x) : addZ (subZ x y) y = x := by
  unfold addZ subZ; rw [Int.emod_add_emod, Int.sub_add_cancel, Int.emod_eq_of_lt h.1 h.2]
theorem subZ_neg (x y : Int) : addZ x (mulZ (subZ 0 1) y) = subZ x y := by
  unfold addZ subZ mulZ
  rw [Int.mul_emod ((0 - 1) % PP), Int.emod_emod, ← Int.mul_emod, Int.add_emod_emod]
  congr 1
  omega

set_option maxRecDepth 100000 in
set_option maxHeartbeats 1600000 in
theorem FieldSigns_walk (w : World) (x : ByteArray) (hx : x.size ≤ 140737488351232) (y : ByteArray) (hy : y.size ≤ 140737488351232) :
    Calls Try.prog 9 #[.string x, .string y] w fun r w' => r = .returned (.bool true) ∧ Below w.heap.size w w' := by
  have eX := fun w => elt1 w x hx
  have eY := fun w => elt1 w y hy
  have ra := rng_elt x
  have rb := rng_elt y
  obtain ⟨a, ha⟩ : ∃ a, a = eltN x := ⟨_, rfl⟩
  obtain ⟨b, hb⟩ : ∃ b, b = eltN y := ⟨_, rfl⟩
  rw [← ha] at eX ra
  rw [← hb] at eY rb
  obtain ⟨m, hm⟩ : ∃ m, m = subZ 0 1 := ⟨_, rfl⟩
  have rm : Rng m := by rw [hm]; exact rng_sub _ _
  have s0 := fun w => small1 w 0 (by omega) (by omega)
  have s1 := fun w => small1 w 1 (by omega) (by omega)
  have cS := fun w => sub2 w 0 1 (rng_small 0 (by omega) (by omega)) (rng_small 1 (by omega) (by omega))
  have cM := fun w t => mul2 w m b t rm rb
  have cA := fun w t => add2 w a (mulZ m b) t ra (rng_mul _ _)
  have e1 : addZ a (mulZ m b) = subZ a b := by rw [hm]; exact subZ_neg a b
  have cD := fun w => sub2 w a b ra rb
  rw [e1] at cA
  rw [← hm] at cS
  obtain ⟨d, hd⟩ : ∃ d, d = subZ a b := ⟨_, rfl⟩
  rw [← hd] at cA cD
  obtain ⟨z, hz⟩ : ∃ z, z = (0 : Int) := ⟨_, rfl⟩
  clear e1
  replace eX := Lib.hid eX
  replace eY := Lib.hid eY
  replace s0 := Lib.hid s0
  replace s1 := Lib.hid s1
  replace cS := Lib.hid cS
  replace cM := Lib.hid cM
  replace cA := Lib.hid cA
  replace cD := Lib.hid cD
  replace ha := Lib.hid ha
  replace hb := Lib.hid hb
  replace hm := Lib.hid hm
  replace hd := Lib.hid hd
  clear ra rb rm hz z
  go_enter Try.func9, Try.ntmps9
  go_upto_region 7 with (first | (go_at_call 26; refine (works_any _).mono ?_; rintro r w1 ⟨rfl, t1⟩) | (go_at_call_of 33 (Value.string x); refine (eX.out _).mono ?_; rintro r w2 ⟨rfl, t2⟩) | (go_at_call_of 33 (Value.string y); refine (eY.out _).mono ?_; rintro r w3 ⟨rfl, t3⟩) | (go_at_call_of 34 (Value.int .i64 0); refine (s0.out _).mono ?_; rintro r w4 ⟨rfl, t4⟩) | (go_at_call_of 34 (Value.int .i64 1); refine (s1.out _).mono ?_; rintro r w5 ⟨rfl, t5⟩) | (go_at_call 31; refine (cS.out _).mono ?_; rintro r w6 ⟨rfl, t6⟩) | (go_at_call 29; refine (cM.out _ _).mono ?_; rintro r w7 ⟨rfl, t7⟩) | (go_at_call 27; refine (cA.out _ _).mono ?_; rintro r w8 ⟨rfl, t8⟩))
  go_wp2_with (go_at_call 31; refine (cD.out _).mono ?_; rintro r w9 ⟨rfl, t9⟩)
  go_ret
  refine ⟨rfl, Touch.toBelow0 (F := Nothing) ?_ fun _ _ q => q⟩
  repeat (first | exact Touch.refl _ _ | refine Touch.trans' ?_ (by assumption) | refine Touch.alloc ?_ _)

set_option maxRecDepth 100000 in
set_option maxHeartbeats 6400000 in
theorem FieldRing_walk (w : World) (x : ByteArray) (hx : x.size ≤ 140737488351232) (y : ByteArray) (hy : y.size ≤ 140737488351232) (z : ByteArray) (hz : z.size ≤ 140737488351232) :
    Calls Try.prog 7 #[.string x, .string y, .string z] w fun r w' => r = .returned (.bool true) ∧ Below w.heap.size w w' := by
  have eX := fun w => elt1 w x hx
  have eY := fun w => elt1 w y hy
  have eZ := fun w => elt1 w z hz
  have ra := rng_elt x
  have rb := rng_elt y
  have rc := rng_elt z
  obtain ⟨a, ha⟩ : ∃ a, a = eltN x := ⟨_, rfl⟩
  obtain ⟨b, hb⟩ : ∃ b, b = eltN y := ⟨_, rfl⟩
  obtain ⟨c, hc⟩ : ∃ c, c = eltN z := ⟨_, rfl⟩
  rw [← ha] at eX ra
  rw [← hb] at eY rb
  rw [← hc] at eZ rc
  have s0 := fun w => small1 w 0 (by omega) (by omega)
  have s1 := fun w => small1 w 1 (by omega) (by omega)
  have q1 := addZ_comm b a
  have q2 := mulZ_comm b a
  have q3 := addZ_assoc a b c
  have q4 := mulZ_assoc a b c
  have q5 := mulZ_addZ a b c
  have q6 := mulZ_one ra
  have q7 := addZ_zero ra
  have r1 := rng_add a b
  have r2 := rng_mul a b
  have r3 := rng_add b c
  have r4 := rng_mul b c
  have r5 := rng_mul a c
  have r6 : Rng 1 := rng_small 1 (by omega) (by omega)
  have r7 : Rng 0 := rng_small 0 (by omega) (by omega)
  replace eX := Lib.hid eX
  replace eY := Lib.hid eY
  replace eZ := Lib.hid eZ
  replace s0 := Lib.hid s0
  replace s1 := Lib.hid s1
  replace ha := Lib.hid ha
  replace hb := Lib.hid hb
  replace hc := Lib.hid hc
  go_enter Try.func7, Try.ntmps7
  go_upto_region 8 with (first | (go_at_call 26; refine (works_any _).mono ?_; rintro r w1 ⟨rfl, t1⟩) | (go_at_call_of 33 (Value.string x); refine (eX.out _).mono ?_; rintro r w2 ⟨rfl, t2⟩) | (go_at_call_of 33 (Value.string y); refine (eY.out _).mono ?_; rintro r w3 ⟨rfl, t3⟩) | (go_at_call_of 33 (Value.string z); refine (eZ.out _).mono ?_; rintro r w3 ⟨rfl, t3⟩) | (go_at_call 27; refine (add2 _ _ _ _ (by assumption) (by assumption)).mono ?_; rintro r w4 ⟨rfl, t4⟩) | (go_at_call 29; refine (mul2 _ _ _ _ (by assumption) (by assumption)).mono ?_; rintro r w5 ⟨rfl, t5⟩))
  go_upto_region 16 with (first | (go_at_call_of 34 (Value.int .i64 0); refine (s0.out _).mono ?_; rintro r w6 ⟨rfl, t6⟩) | (go_at_call_of 34 (Value.int .i64 1); refine (s1.out _).mono ?_; rintro r w7 ⟨rfl, t7⟩) | (go_at_call 27; refine (add2 _ _ _ _ (by assumption) (by assumption)).mono ?_; rintro r w4 ⟨rfl, t4⟩) | (go_at_call 29; refine (mul2 _ _ _ _ (by assumption) (by assumption)).mono ?_; rintro r w5 ⟨rfl, t5⟩))
  go_upto_region 18 with (first | (go_at_call 27; refine (add3 _ _ _ _ _ (by assumption) (by assumption) (by assumption)).mono ?_; rintro r w4 ⟨rfl, t4⟩) | (go_at_call 29; refine (mul3 _ _ _ _ _ (by assumption) (by assumption) (by assumption)).mono ?_; rintro r w5 ⟨rfl, t5⟩))
  go_wp2_with (first | (go_at_call_of 34 (Value.int .i64 0); refine (s0.out _).mono ?_; rintro r w6 ⟨rfl, t6⟩) | (go_at_call_of 34 (Value.int .i64 1); refine (s1.out _).mono ?_; rintro r w7 ⟨rfl, t7⟩) | (go_at_call 27; refine (add2 _ _ _ _ (by assumption) (by assumption)).mono ?_; rintro r w4 ⟨rfl, t4⟩) | (go_at_call 29; refine (mul2 _ _ _ _ (by assumption) (by assumption)).mono ?_; rintro r w5 ⟨rfl, t5⟩))
  go_ret
  refine ⟨rfl, Touch.toBelow0 (F := Nothing) ?_ fun _ _ q => q⟩
  repeat (first | exact Touch.refl _ _ | refine Touch.trans' ?_ (by assumption) | refine Touch.alloc ?_ _)

theorem invN_zero : invN 0 = 0 := by
  unfold invN
  obtain ⟨k, hk⟩ : ∃ k, 57896044618658097711785492504343953926634992332820282019728792003956564819947 = k + 1 := ⟨57896044618658097711785492504343953926634992332820282019728792003956564819946, rfl⟩
  rw [hk, Int.pow_succ, Int.mul_zero]
  rfl

theorem invN_back {x : Int} (h : Rng x) : invN (invN x) = x := by
  by_cases h0 : x = 0
  · subst h0; rw [invN_zero, invN_zero]
  · have hx : x % PP ≠ 0 := by rw [Int.emod_eq_of_lt h.1 h.2]; exact h0
    have e1 := inv_mul x hx
    have hy : invN x % PP ≠ 0 := fun q => by
      unfold mulZ at e1
      rw [Int.mul_emod, q, Int.mul_zero] at e1
      exact absurd e1 (by decide)
    have e2 := inv_mul (invN x) hy
    have e3 := mulZ_assoc x (invN x) (invN (invN x))
    rw [e1, e2, mulZ_one h, mulZ_comm, mulZ_one (rng_inv _)] at e3
    exact e3.symm

theorem enc_ne {x y : Int} (hx : Rng x) (hy : Rng y) (h : x ≠ y) : ((enc x).toList == (enc y).toList) = false :=
  tl_false fun e => h (by rw [← dec_e hx, e, dec_e hy])

set_option maxRecDepth 100000 in
set_option maxHeartbeats 3200000 in
theorem FieldBack_walk (w : World) (x : ByteArray) (hx : x.size ≤ 140737488351232) (y : ByteArray) (hy : y.size ≤ 140737488351232) :
    Calls Try.prog 8 #[.string x, .string y] w fun r w' => r = .returned (.bool true) ∧ Below w.heap.size w w' := by
  have eX := fun w => elt1 w x hx
  have eY := fun w => elt1 w y hy
  have ra := rng_elt x
  have rb := rng_elt y
  obtain ⟨a, ha⟩ : ∃ a, a = eltN x := ⟨_, rfl⟩
  obtain ⟨b, hb⟩ : ∃ b, b = eltN y := ⟨_, rfl⟩
  rw [← ha] at eX ra
  rw [← hb] at eY rb
  have s0 := fun w => small1 w 0 (by omega) (by omega)
  have s1 := fun w => small1 w 1 (by omega) (by omega)
  have r0 : Rng 0 := rng_small 0 (by omega) (by omega)
  have q1 := subZ_back b ra
  have q2 := invN_back ra
  have r1 := rng_sub a b
  have r2 := rng_inv a
  replace eY := Lib.hid eY
  replace s0 := Lib.hid s0
  replace s1 := Lib.hid s1
  replace ha := Lib.hid ha
  replace hb := Lib.hid hb
  by_cases h0 : a = 0
  · subst h0
    have q3 := invN_zero
    have q4 : mulZ 0 0 = 0 := rfl
    rw [q3] at q2 r2
    clear q2 r2
    replace eX := Lib.hid eX
    go_enter Try.func8, Try.ntmps8
    go_wp2_with (first | (go_at_call 26; refine (works_any _).mono ?_; rintro r w1 ⟨rfl, t1⟩) | (go_at_call_of 33 (Value.string x); refine (eX.out _).mono ?_; rintro r w2 ⟨rfl, t2⟩) | (go_at_call_of 33 (Value.string y); refine (eY.out _).mono ?_; rintro r w3 ⟨rfl, t3⟩) | (go_at_call_of 34 (Value.int .i64 0); refine (s0.out _).mono ?_; rintro r w4 ⟨rfl, t4⟩) | (go_at_call_of 34 (Value.int .i64 1); refine (s1.out _).mono ?_; rintro r w5 ⟨rfl, t5⟩) | (go_at_call 31; refine (sub2 _ _ _ (by assumption) (by assumption)).mono ?_; rintro r w6 ⟨rfl, t6⟩) | (go_at_call 29; refine (mul2 _ _ _ _ (by assumption) (by assumption)).mono ?_; rintro r w7 ⟨rfl, t7⟩) | (go_at_call 27; refine (add2 _ _ _ _ (by assumption) (by assumption)).mono ?_; rintro r w8 ⟨rfl, t8⟩) | (go_at_call 35; refine (inv1 _ _ (by assumption)).mono ?_; rintro r w8 ⟨rfl, t8⟩))
    go_ret
    refine ⟨rfl, Touch.toBelow0 (F := Nothing) ?_ fun _ _ q => q⟩
    repeat (first | exact Touch.refl _ _ | refine Touch.trans' ?_ (by assumption) | refine Touch.alloc ?_ _)
  · have q3 := inv_mul a (by rw [Int.emod_eq_of_lt ra.1 ra.2]; exact h0)
    have hne := enc_ne ra r0 h0
    clear h0
    replace eX := Lib.hid eX
    go_enter Try.func8, Try.ntmps8
    go_wp2_with (first | (go_at_call 26; refine (works_any _).mono ?_; rintro r w1 ⟨rfl, t1⟩) | (go_at_call_of 33 (Value.string x); refine (eX.out _).mono ?_; rintro r w2 ⟨rfl, t2⟩) | (go_at_call_of 33 (Value.string y); refine (eY.out _).mono ?_; rintro r w3 ⟨rfl, t3⟩) | (go_at_call_of 34 (Value.int .i64 0); refine (s0.out _).mono ?_; rintro r w4 ⟨rfl, t4⟩) | (go_at_call_of 34 (Value.int .i64 1); refine (s1.out _).mono ?_; rintro r w5 ⟨rfl, t5⟩) | (go_at_call 31; refine (sub2 _ _ _ (by assumption) (by assumption)).mono ?_; rintro r w6 ⟨rfl, t6⟩) | (go_at_call 29; refine (mul2 _ _ _ _ (by assumption) (by assumption)).mono ?_; rintro r w7 ⟨rfl, t7⟩) | (go_at_call 27; refine (add2 _ _ _ _ (by assumption) (by assumption)).mono ?_; rintro r w8 ⟨rfl, t8⟩) | (go_at_call 35; refine (inv1 _ _ (by assumption)).mono ?_; rintro r w8 ⟨rfl, t8⟩))
    go_ret
    refine ⟨rfl, Touch.toBelow0 (F := Nothing) ?_ fun _ _ q => q⟩
    repeat (first | exact Touch.refl _ _ | refine Touch.trans' ?_ (by assumption) | refine Touch.alloc ?_ _)

theorem sqN_add (x : Int) (n m : Nat) : sqN (sqN x n) m = sqN x (n + m) := by
  induction m with
  | zero => rw [sqN_zero]; exact Int.emod_eq_of_lt (rng_sq x n).1 (rng_sq x n).2
  | succ m ih => rw [sqN_succ, ih, ← Nat.add_assoc, sqN_succ]

theorem sqN_one (x : Int) : sqN x 1 = mulZ x x := by
  rw [sqN_succ, sqN_zero, ← Int.mul_emod]
  rfl

theorem rest_hundred (n : Int) : ∃ k : Nat, k ≤ 99 ∧ wrap64 ((IntKind.u64.wrap n).tmod 100) = (k : Int) := by
  rw [IntKind.wrap_u64, Int.tmod_eq_emod_of_nonneg (by omega)]
  refine ⟨(n % 18446744073709551616 % 100).toNat, by omega, ?_⟩
  unfold wrap64
  omega

set_option maxRecDepth 100000 in
set_option maxHeartbeats 3200000 in
theorem FieldSquares_walk (w : World) (x : ByteArray) (hx : x.size ≤ 140737488351232) (n : Int) (hn : -9223372036854775808 ≤ n ∧ n ≤ 9223372036854775807) (m : Int) (hm : -9223372036854775808 ≤ m ∧ m ≤ 9223372036854775807) :
    Calls Try.prog 13 #[.string x, .int .i64 n, .int .i64 m] w fun r w' => r = .returned (.bool true) ∧ Below w.heap.size w w' := by
  have eX := fun w => elt1 w x hx
  have ra := rng_elt x
  obtain ⟨a, ha⟩ : ∃ a, a = eltN x := ⟨_, rfl⟩
  rw [← ha] at eX ra
  obtain ⟨N, hN, eN⟩ := rest_hundred n
  obtain ⟨M, hM, eM⟩ := rest_hundred m
  have c1 := fun w => sq1 w a ra N (N : Int) rfl (by omega)
  have c2 := fun w => sq1 w (sqN a N) (rng_sq _ _) M (M : Int) rfl (by omega)
  have c3 := fun w => sq1 w a ra (N + M) ((N : Int) + (M : Int)) (by omega) (by omega)
  have c4 := fun w => sq1 w a ra 1 1 rfl (by omega)
  have c5 := fun w t => mul2 w a a t ra ra
  rw [sqN_add] at c2
  rw [sqN_one] at c4
  replace eX := Lib.hid eX
  replace ha := Lib.hid ha
  replace c1 := Lib.hid c1
  replace c2 := Lib.hid c2
  replace c3 := Lib.hid c3
  replace c4 := Lib.hid c4
  replace c5 := Lib.hid c5
  go_enter Try.func13, Try.ntmps13
  go_upto_region 6 with (first | (go_at_call 26; refine (works_any _).mono ?_; rintro r w1 ⟨rfl, t1⟩) | (go_at_call_of 33 (Value.string x); refine (eX.out _).mono ?_; rintro r w2 ⟨rfl, t2⟩) | (go_at_call 42; refine (c1.out _).mono ?_; rintro r w3 ⟨rfl, t3⟩))
  go_upto_region 7 with (go_at_call 42; refine (c2.out _).mono ?_; rintro r w4 ⟨rfl, t4⟩)
  go_upto_region 8 with (go_at_call 42; refine (c3.out _).mono ?_; rintro r w5 ⟨rfl, t5⟩)
  go_upto_region 9 with (go_at_call 42; refine (c4.out _).mono ?_; rintro r w6 ⟨rfl, t6⟩)
  go_wp2_with (go_at_call 29; refine (c5.out _ _).mono ?_; rintro r w7 ⟨rfl, t7⟩)
  go_ret
  refine ⟨rfl, Touch.toBelow0 (F := Nothing) ?_ fun _ _ q => q⟩
  repeat (first | exact Touch.refl _ _ | refine Touch.trans' ?_ (by assumption) | refine Touch.alloc ?_ _)

end Go.Proofs.Ytfnmnmjpcamkiaa
