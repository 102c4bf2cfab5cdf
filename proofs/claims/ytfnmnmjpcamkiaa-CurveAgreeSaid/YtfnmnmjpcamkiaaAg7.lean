/-
  The law CurveAgree: in bytes; walked.
-/
import Derived.Test.YtfnmnmjpcamkiaaAg6
import Derived.Test.YtfnmnmjpcamkiaaSt1
namespace Go.Proofs.Ytfnmnmjpcamkiaa
open Go.RowKit Agree
set_option linter.unusedVariables false
set_option linter.unusedSimpArgs false
set_option maxRecDepth 100000

theorem numS_lt (u : ByteArray) : (dec u % 57896044618658097711785492504343953926634992332820282019728792003956564819968 % PP).toNat < qP := by
  have h0 := Int.emod_nonneg (dec u % 57896044618658097711785492504343953926634992332820282019728792003956564819968) (show PP ≠ 0 by decide)
  have h1 := Int.emod_lt_of_pos (dec u % 57896044618658097711785492504343953926634992332820282019728792003956564819968) (show (0 : Int) < PP by decide)
  have h2 := qP_int
  omega
/-- The number that a point's bytes tell. -/
def numS (u : ByteArray) : Fp := ⟨(dec u % 57896044618658097711785492504343953926634992332820282019728792003956564819968 % PP).toNat, numS_lt u⟩
def kS2 (k : ByteArray) : Nat := clampN (decL k.data.toList)
def encF (v : Fp) : ByteArray := enc ((v.val : Nat) : Int)
theorem timesB_f (k u : ByteArray) : timesB k u = encF (tF (numS u) (kS2 k)) := by
  rw [timesB_eq]
  unfold encF
  rw [← v_T]
  rfl
theorem val_lt (v : Fp) : ((v.val : Nat) : Int) < 57896044618658097711785492504343953926634992332820282019728792003956564819949 := by
  have := v.isLt
  have e : qP = 57896044618658097711785492504343953926634992332820282019728792003956564819949 := rfl
  omega
theorem num_enc (v : Fp) : numS (encF v) = v := by
  have h := val_lt v
  have h0 := v.isLt
  apply Fin.ext
  unfold numS encF
  simp only []
  rw [dec_enc _ (by omega) (by omega)]
  have e : PP = 57896044618658097711785492504343953926634992332820282019728792003956564819949 := rfl
  rw [e, Int.emod_eq_of_lt (Int.natCast_nonneg _) (by omega), Int.emod_eq_of_lt (Int.natCast_nonneg _) h]
  exact Int.toNat_natCast _
theorem encF_inj {a b : Fp} (h : encF a = encF b) : a = b := by rw [← num_enc a, ← num_enc b, h]
theorem enc_nine_f : enc 9 = encF 9 := by
  unfold encF
  have : (9 : Fp).val = 9 := by decide +kernel
  rw [this]
  rfl
theorem enc_zero_f : enc 0 = encF 0 := by
  unfold encF
  rw [f_zero]
  rfl
theorem encF_size (v : Fp) : (encF v).size = 32 := enc_size _

theorem timesR_f {k u : ByteArray} (hk : k.size = 32) (hu : u.size = 32) : timesR k u = (encF (tF (numS u) (kS2 k)), 0) := by
  unfold timesR
  rw [if_pos ⟨hk, hu⟩, timesB_f]
theorem sharedR_f {k u : ByteArray} (hk : k.size = 32) (hu : u.size = 32) : sharedR k u = if tF (numS u) (kS2 k) = 0 then (noB, 20) else (encF (tF (numS u) (kS2 k)), 0) := by
  unfold sharedR
  rw [timesR_f hk hu]
  simp only [if_true]
  by_cases h : tF (numS u) (kS2 k) = 0
  · rw [if_pos h, h, enc_zero_f, if_pos rfl]
  · rw [if_neg h, if_neg (fun q => h (encF_inj (q.trans enc_zero_f)))]

/-- A clamped scalar: eight times a number that the order of the base point does not divide. -/
theorem kS2_is (k : ByteArray) : ∃ m, kS2 k = 2 * (4 * m) ∧ 0 < m ∧ m < ordL ∧ kS2 k < 2 ^ 255 := by
  have h := clampN_lt (decL k.data.toList)
  have e : (2 : Nat) ^ 255 = 57896044618658097711785492504343953926634992332820282019728792003956564819968 := by decide +kernel
  have el : ordL = 7237005577332262213973186563042994240857116359379907606001950938285454250989 := rfl
  unfold kS2
  refine ⟨decL k.data.toList / 8 % 3618502788666131106986593281521497120414687020801267626233049500247285301248 + 3618502788666131106986593281521497120414687020801267626233049500247285301248, ?_, by omega, by omega, by omega⟩
  unfold clampN
  omega
theorem ord_no {m : Nat} (h0 : 0 < m) (h1 : m < ordL) : ¬ ordL ∣ m := fun h => by have := Nat.le_of_dvd h0 h; omega
theorem cop_two {a b : Nat} (ha : 0 < a) (ha2 : a < ordL) (hb : 0 < b) (hb2 : b < ordL) : Nat.Coprime (2 * (2 * (4 * a) * (2 * (4 * b)))) ordL := by
  have el : ordL = 7237005577332262213973186563042994240857116359379907606001950938285454250989 := rfl
  refine (ordL_prm.cop fun h => ?_).symm
  have e : 2 * (2 * (4 * a) * (2 * (4 * b))) = 128 * (a * b) := by
    rw [Nat.mul_mul_mul_comm 2 (4 * a) 2 (4 * b), Nat.mul_mul_mul_comm 4 a 4 b]
    omega
  rw [e] at h
  rcases ordL_prm.mul h with q | q
  · exact ord_no (by decide) (by omega) q
  · rcases ordL_prm.mul q with q | q
    · exact ord_no ha ha2 q
    · exact ord_no hb hb2 q

theorem num_nine : numS (enc 9) = 9 := by rw [enc_nine_f, num_enc]
theorem nine_size : (enc 9).size = 32 := enc_size _

/-- Both sides have the same secret. -/
theorem agree_both {x y : ByteArray} (hx : x.size = 32) (hy : y.size = 32) : ∃ px py s : ByteArray, timesR x (enc 9) = (px, 0) ∧ timesR y (enc 9) = (py, 0) ∧ sharedR x py = (s, 0) ∧ sharedR y px = (s, 0) := by
  obtain ⟨a, ea, a0, a1, a2⟩ := kS2_is x
  obtain ⟨b, eb, b0, b1, b2⟩ := kS2_is y
  have hc := tF_comm 9 (4 * a) (4 * b) (by rw [← ea]; exact a2) (by rw [← eb]; exact b2)
  have hn := tF_nine (2 * (4 * a)) (4 * b) (by rw [← ea]; exact a2) (by rw [← eb]; exact b2) (cop_two b0 b1 a0 a1)
  refine ⟨_, _, encF (tF (tF 9 (kS2 x)) (kS2 y)), timesR_f hx nine_size, timesR_f hy nine_size, ?_, ?_⟩
  · rw [sharedR_f hx (encF_size _), num_enc, num_nine, ea, eb, ← hc, if_neg hn]
  · rw [sharedR_f hy (encF_size _), num_enc, num_nine, ea, eb, if_neg hn]

/-- From any point on: the same, or weak. -/
theorem chain_f {x y z : ByteArray} (hx : x.size = 32) (hy : y.size = 32) (hz : z.size = 32) : chainR z [x, y] = if tF (tF (numS z) (kS2 x)) (kS2 y) = 0 then (noB, 20) else (encF (tF (tF (numS z) (kS2 x)) (kS2 y)), 0) := by
  rw [chainR_two hx hy hz, sharedR_f hx hz]
  by_cases h : tF (numS z) (kS2 x) = 0
  · rw [if_pos h, h, tF_zero, if_pos rfl]
    rfl
  · rw [if_neg h]
    simp only [if_true]
    rw [sharedR_f hy (encF_size _), num_enc]
theorem agree_chain {x y z : ByteArray} (hx : x.size = 32) (hy : y.size = 32) (hz : z.size = 32) : ∃ (c : ByteArray) (e : Int), chainR z [x, y] = (c, e) ∧ chainR z [y, x] = (c, e) ∧ (e = 0 ∨ e = 20) := by
  obtain ⟨a, ea, a0, a1, a2⟩ := kS2_is x
  obtain ⟨b, eb, b0, b1, b2⟩ := kS2_is y
  have hc := tF_comm (numS z) (4 * a) (4 * b) (by rw [← ea]; exact a2) (by rw [← eb]; exact b2)
  rw [chain_f hx hy hz, chain_f hy hx hz, ea, eb, hc]
  by_cases h : tF (tF (numS z) (2 * (4 * b))) (2 * (4 * a)) = 0
  · rw [if_pos h]
    exact ⟨_, _, rfl, rfl, .inr rfl⟩
  · rw [if_neg h]
    exact ⟨_, _, rfl, rfl, .inl rfl⟩

set_option maxHeartbeats 1600000 in
theorem curveAgree_walk (w : World) (a b c : ByteArray) : Calls Try.prog 18 #[.string a, .string b, .string c] w fun r w' => r = .returned (.bool true) ∧ Touch Nothing w w' := by
  have hx := scalarS_size a
  have hy := scalarS_size b
  have hz := scalarS_size c
  have hA := fun w => scalar_any w a
  have hB := fun w => scalar_any w b
  have hC := fun w => scalar_any w c
  obtain ⟨x, ex⟩ : ∃ x, x = scalarS a := ⟨_, rfl⟩
  obtain ⟨y, ey⟩ : ∃ x, x = scalarS b := ⟨_, rfl⟩
  obtain ⟨z, ez⟩ : ∃ x, x = scalarS c := ⟨_, rfl⟩
  rw [← ex] at hx hA
  rw [← ey] at hy hB
  rw [← ez] at hz hC
  obtain ⟨px, py, s, h1, h2, h3, h4⟩ := agree_both hx hy
  obtain ⟨d, e, h5, h6, he⟩ := agree_chain hx hy hz
  have hPx := fun w => Public_lay w x
  have hPy := fun w => Public_lay w y
  rw [h1] at hPx
  rw [h2] at hPy
  have hS := fun w => Shared_lay w x py
  have hT := fun w => Shared_lay w y px
  rw [h3] at hS
  rw [h4] at hT
  have hU := fun w => chain2 w x y z _ h5
  have hV := fun w => chain2 w y x z _ h6
  simp only [] at hPx hPy hS hT hU hV
  have hW := Lib.hid (fun w => curveWorks_any w)
  replace hA := Lib.hid hA
  replace hB := Lib.hid hB
  replace hC := Lib.hid hC
  replace hPx := Lib.hid hPx
  replace hPy := Lib.hid hPy
  replace hS := Lib.hid hS
  replace hT := Lib.hid hT
  replace hU := Lib.hid hU
  replace hV := Lib.hid hV
  clear ex ey ez hx hy hz h1 h2 h3 h4 h5 h6
  rcases he with rfl | rfl
  all_goals
    go_enter Try.func18, Try.ntmps18
    go_wp2_with (first | (go_at_call 40; refine (hW.out _).mono ?_; rintro r wW ⟨rfl, tW⟩) | (go_at_call_of 48 (Value.string a); refine (hA.out _).mono ?_; rintro r wA ⟨rfl, tA⟩) | (go_at_call_of 48 (Value.string b); refine (hB.out _).mono ?_; rintro r wB ⟨rfl, tB⟩) | (go_at_call_of 48 (Value.string c); refine (hC.out _).mono ?_; rintro r wC ⟨rfl, tC⟩) | (go_at_call_of 46 (Value.string x); refine (hPx.out _).mono ?_; rintro r wP ⟨rfl, tP⟩) | (go_at_call_of 46 (Value.string y); refine (hPy.out _).mono ?_; rintro r wQ ⟨rfl, tQ⟩) | (go_at_call_of 44 (Value.string x); refine (hS.out _).mono ?_; rintro r wS ⟨rfl, tS⟩) | (go_at_call_of 44 (Value.string y); refine (hT.out _).mono ?_; rintro r wT ⟨rfl, tT⟩) | (go_at_call 49; with_reducible refine (hU.out _).mono ?_; rintro r wX ⟨rfl, tX⟩) | (go_at_call 49; with_reducible refine (hV.out _).mono ?_; rintro r wY ⟨rfl, tY⟩))
    go_ret
    exact ⟨rfl, (((((((((tW.trans' tA).trans' tB).trans' tC).trans' tP).trans' tQ).trans' tS).trans' tT).trans' tX).trans' tY)⟩

theorem CurveAgree_walk (w : World) (x : ByteArray) (hx : x.size ≤ 140737488351232) (y : ByteArray) (hy : y.size ≤ 140737488351232) (z : ByteArray) (hz : z.size ≤ 140737488351232) :
    Calls Try.prog 18 #[.string x, .string y, .string z] w fun r w' => r = .returned (.bool true) ∧ Below w.heap.size w w' :=
  (curveAgree_walk w x y z).mono fun r w' q => ⟨q.1, q.2.toBelow0 fun _ _ q => q⟩

end Go.Proofs.Ytfnmnmjpcamkiaa
