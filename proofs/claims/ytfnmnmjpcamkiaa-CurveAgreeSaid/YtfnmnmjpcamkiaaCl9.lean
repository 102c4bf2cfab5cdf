/-
  Layer 2's law helpers: hex, walked.
  Layer 2's law helpers: works, walked.
  Layer 2: Clamp, walked.
-/
import Derived.Test.YtfnmnmjpcamkiaaCl6
import Derived.Test.YtfnmnmjpcamkiaaCl4
import Derived.Test.YtfnmnmjpcamkiaaGod
namespace Go.Proofs.Ytfnmnmjpcamkiaa
open Go.RowKit
set_option linter.unusedVariables false
set_option linter.unusedSimpArgs false

/-- A digit's number. -/
def dgV (c : Nat) : Nat := if c < 97 then c - 48 else c - 87

def dgOk (c : Nat) : Bool := (48 ≤ c && c < 58) || (97 ≤ c && c < 103)

def hexB : ByteArray := { data := #[52, 50, 50, 99, 56, 101, 55, 97, 54, 50, 50, 55, 100, 55, 98, 99, 97, 49, 51, 53, 48, 98, 51, 101, 50, 98, 98, 55, 50, 55, 57, 102, 55, 56, 57, 55, 98, 56, 55, 98, 98, 54, 56, 53, 52, 98, 55, 56, 51, 99, 54, 48, 101, 56, 48, 51, 49, 49, 97, 101, 51, 48, 55, 57] }

def hexOk (s : ByteArray) (out : List UInt8) : Prop :=
  s.size = 64 ∧ out.length = 32 ∧ ∀ k, k < 32 → ∃ x y z : UInt8, s.data.toList[2 * k]? = some x ∧ s.data.toList[2 * k + 1]? = some y ∧ out[k]? = some z ∧ dgOk x.toNat = true ∧ dgOk y.toNat = true ∧ z.toNat = 16 * dgV x.toNat + dgV y.toNat

theorem E5 : Elt Try.prog 42 5 1 1 := Elt.mk' (z := .int .u8 0) Try.underlying42 (by kernel_rfl) rfl (by decide)

set_option maxRecDepth 100000 in
set_option maxHeartbeats 1600000 in
theorem hex_any (w : World) (s : ByteArray) (out : List UInt8) (h : hexOk s out) :
    Calls Try.prog 73 #[.string s] w fun r w' => r = .returned (.string ⟨out.toArray⟩) ∧ Touch Nothing w w' := by
  obtain ⟨hs, ho, hD⟩ := h
  have hs64 : (s.size : Int) = 64 := by omega
  have hs1 : s.size ≤ 64 := by omega
  have hs2 : 64 ≤ s.size := by omega
  replace hs := Lib.hid hs
  replace ho := Lib.hid ho
  replace hD := Lib.hid hD
  go_enter Try.func73, Try.ntmps73
  go_wp2
  go_loopw [3, 4] (fun sv iv wr => ∃ (k m : Nat), k ≤ 32 ∧ m = 2 * k ∧ iv = .int .i64 (m : Int) ∧ wr.ownsRow 0 5 1 sv k ((out.take k).map byteV) ∧ (∀ g, sv.ownBlock = some g → w.heap.size ≤ g) ∧ Touch Nothing w wr) (fun _ iv _ => 64 - (intOf iv).toNat)
  case atStart => exact ⟨0, 0, by omega, rfl, rfl, ⟨rfl, Or.inl ⟨rfl, rfl⟩⟩, ⟨fun g q => by simp [Value.ownBlock] at q, Touch.refl _ _⟩⟩
  case round =>
    obtain ⟨k, m, hk, hm, rfl, hown, hgt, ht⟩ := hrel
    by_cases hlt : k < 32
    · obtain ⟨x, y, z, hx, hy, hz, ox, oy, hv⟩ := hD.out k hlt
      rw [← hm] at hx hy
      have m1 : m < s.size := by omega
      have m2 : m + 1 < s.size := by omega
      have m3 : (m : Int) + 1 < 64 := by omega
      have m4 : (0 : Int) ≤ (m : Int) + 1 := by omega
      have m5 : (m : Int) + 1 < (s.size : Int) := by omega
      have m6 : ((m : Int) + 1).toNat = m + 1 := by omega
      have m7 : (0 : Int) ≤ (m : Int) := by omega
      have m8 : (m : Int) < 64 := by omega
      have m9 : m < 64 := by omega
      have m10 : m + 1 < 64 := by omega
      replace hown := Lib.hid hown
      replace hgt := Lib.hid hgt
      replace hm := Lib.hid hm
      replace hx := Lib.hid hx
      replace hy := Lib.hid hy
      replace hz := Lib.hid hz
      replace hv := Lib.hid hv
      have ex : s[m] = x := by
        have := hx.out
        rw [List.getElem?_eq_getElem (by simpa using m1)] at this
        show s.data[m] = x
        simpa using this
      have ey : s[m + 1] = y := by
        have := hy.out
        rw [List.getElem?_eq_getElem (by simpa using m2)] at this
        show s.data[m + 1] = y
        simpa using this
      replace ex := Lib.hid ex
      replace ey := Lib.hid ey
      go_upto_region 6 with fail
      go_region
      simp only [ex.out, ey.out]
      obtain ⟨X, hX⟩ : ∃ X : Nat, X = x.toNat := ⟨_, rfl⟩
      obtain ⟨Y, hY⟩ : ∃ Y : Nat, Y = y.toNat := ⟨_, rfl⟩
      obtain ⟨gw, hgw⟩ : ∃ gw, gw = wr.heap.size := ⟨_, rfl⟩
      have hB := heap_alloc_new wr (.cells #[.int .u8 (X : Int), .int .u8 (Y : Int)] 5)
      have hT0 : Touch Nothing wr (wr.alloc (.cells #[.int .u8 (X : Int), .int .u8 (Y : Int)] 5)).drew := ((Touch.refl Nothing wr).alloc _).drew
      rw [← hX, ← hY] at hv
      rw [← hX] at ox
      rw [← hY] at oy
      rw [← hX, ← hY]
      obtain ⟨W, eW⟩ : ∃ W, W = (wr.alloc (.cells #[.int .u8 (X : Int), .int .u8 (Y : Int)] 5)).drew := ⟨_, rfl⟩
      have hB2 : W.heap[gw]? = some (.cells #[.int .u8 (X : Int), .int .u8 (Y : Int)] 5) := by rw [eW, hgw]; exact hB
      rw [← eW] at hT0
      rw [← hgw, ← eW]
      have c0 : W.cell? ⟨gw, 0, none⟩ = some (.int .u8 (X : Int)) := cell_blk hB2 0
      have c1 : W.cell? ⟨gw, 1, none⟩ = some (.int .u8 (Y : Int)) := cell_blk hB2 1
      have hX256 : X < 256 := by rw [hX]; exact x.toNat_lt
      have hY256 : Y < 256 := by rw [hY]; exact y.toNat_lt
      clear eW hX hY hB ex ey hx hy m1 m2 m3 m4 m5 m6
      replace hB2 := Lib.hid hB2
      replace hT0 := Lib.hid hT0
      replace hgw := Lib.hid hgw
      replace ht := Lib.hid ht
      have oX : (48 ≤ X ∧ X < 58) ∨ (97 ≤ X ∧ X < 103) := by simpa [dgOk] using ox
      have oY : (48 ≤ Y ∧ Y < 58) ∨ (97 ≤ Y ∧ Y < 103) := by simpa [dgOk] using oy
      obtain ⟨d, hd⟩ : ∃ d, d = dgV X := ⟨_, rfl⟩
      obtain ⟨d2, hd2⟩ : ∃ d, d = dgV Y := ⟨_, rfl⟩
      rw [← hd, ← hd2] at hv
      unfold dgV at hd hd2
      clear ox oy
      replace oX := Lib.hid oX
      replace oY := Lib.hid oY
      replace hd := Lib.hid hd
      replace hd2 := Lib.hid hd2
      have hownW := Lib.hid (hT0.out.owns hown.out (fun _ _ q => q))
      have htW := Lib.hid (ht.out.trans' hT0.out)
      go_wp2
      go_loopw [5, 24] (fun vv jv wq => wq = W ∧ ∃ (j v : Nat), vv = .int .u8 (v : Int) ∧ jv = .int .i64 (j : Int) ∧ ((j = 0 ∧ v = 0) ∨ (j = 1 ∧ v = d) ∨ (j = 2 ∧ v = 16 * d + d2))) (fun _ jv _ => 2 - (intOf jv).toNat)
      case atStart => exact ⟨rfl, 0, 0, rfl, rfl, .inl ⟨rfl, rfl⟩⟩
      case round =>
        obtain ⟨rfl, j, v, rfl, rfl, hj⟩ := hrel
        rcases hj with ⟨rfl, rfl⟩ | ⟨rfl, rfl⟩ | ⟨rfl, rfl⟩
        · by_cases h97 : 97 ≤ X
          · have g97 : (97 : Int) ≤ (X : Int) := by omega
            go_wp2
            have e := hd.out
            rw [if_neg (by omega)] at e
            have o := oX.out
            have e2 : (X : Int) - 97 + 10 = (d : Int) := by omega
            exact ⟨⟨trivial, 1, d, by rw [e2], rfl, .inr (.inl ⟨rfl, rfl⟩)⟩, by simp [intOf]⟩
          · have g97 : ¬ (97 : Int) ≤ (X : Int) := by omega
            go_wp2
            have e := hd.out
            rw [if_pos (by omega)] at e
            have o := oX.out
            have e2 : ((X : Int) - 48) % 256 = (d : Int) := by omega
            exact ⟨⟨trivial, 1, d, by rw [e2], rfl, .inr (.inl ⟨rfl, rfl⟩)⟩, by simp [intOf]⟩
        · have hd15 : v < 16 := by
            have e := hd.out
            have o := oX.out
            split at e <;> omega
          by_cases h97 : 97 ≤ Y
          · have g97 : (97 : Int) ≤ (Y : Int) := by omega
            go_wp2
            have e := hd2.out
            rw [if_neg (by omega)] at e
            have o := oY.out
            have e2 : (((v : Int) * 16 + (Y : Int) - 97) % 256 + 10) % 256 = ((16 * v + d2 : Nat) : Int) := by omega
            exact ⟨⟨trivial, 2, 16 * v + d2, by rw [e2], rfl, .inr (.inr ⟨rfl, rfl⟩)⟩, by simp [intOf]⟩
          · have g97 : ¬ (97 : Int) ≤ (Y : Int) := by omega
            go_wp2
            have e := hd2.out
            rw [if_pos (by omega)] at e
            have o := oY.out
            have e2 : (((v : Int) * 16 + (Y : Int)) % 256 - 48) % 256 = ((16 * v + d2 : Nat) : Int) := by omega
            exact ⟨⟨trivial, 2, 16 * v + d2, by rw [e2], rfl, .inr (.inr ⟨rfl, rfl⟩)⟩, by simp [intOf]⟩
        · have hzs : (out.take k).map byteV ++ [Value.int .u8 ((16 * d + d2 : Nat) : Int)] = (out.take (k + 1)).map byteV := by
            obtain ⟨hlk, hzk⟩ := List.getElem?_eq_some_iff.1 hz.out
            rw [List.take_succ_eq_append_getElem hlk, List.map_append, hzk]
            simp only [List.map_cons, List.map_nil, byteV]
            rw [hv.out]
          have hnew := heap_alloc_new wr (.cells #[.int .u8 ((16 * d + d2 : Nat) : Int)] 5)
          have hsrc : Src (wr.alloc (.cells #[.int .u8 ((16 * d + d2 : Nat) : Int)] 5)) (.slice (some ⟨wr.heap.size, 0, none⟩) 1 1) 1 1 [.int .u8 ((16 * d + d2 : Nat) : Int)] := by
            refine .inr ⟨_, _, rfl, rfl, fun j u hu => ?_, fun u hu => ?_⟩
            · match j with
              | 0 => simp at hu; rw [← hu]; exact cell_blk hnew 0
              | j + 1 => simp at hu
            · simp at hu; rw [hu]; rfl
          have hown3 := ((Touch.refl Nothing wr).alloc (.cells #[.int .u8 ((16 * d + d2 : Nat) : Int)] 5)).owns hownW.out (fun _ _ q => q)
          replace hzs := Lib.hid hzs
          replace hsrc := Lib.hid hsrc
          replace hown3 := Lib.hid hown3
          clear hnew
          go_wp2_with (first | (refine wpList_app (o := ⟨some 45, _, _, _, _, _⟩) E5 rfl _ _ rfl rfl hown3.out rfl hsrc.out (k := k + 1) (zs := (out.take (k + 1)).map byteV) rfl hzs.out (Nat.le_trans (show k + 1 ≤ 32 by omega) (by decide)) (by omega) ?_; rintro v2 w2 ho2 hgr hbl))
          have hsz := htW.out.size
          refine ⟨⟨k + 1, m + 2, by omega, by have := hm.out; omega, by simp, ho2, fun g q => ?_, (htW.out.alloc _).grown hgr fun i hi q => ?_⟩, by simp [intOf]; omega⟩
          · rcases hbl with e | e
            · exact hgt.out g (e ▸ q)
            · rw [e] at q
              simp at q
              omega
          · have := hgt.out i q
            omega
    · obtain rfl : k = 32 := by omega
      have hm64 : m = 64 := by omega
      subst hm64
      obtain ⟨a, c, rfl⟩ := owns_slice hown
      have hsl := owns_slB hown
      have ht32 : out.take 32 = out := List.take_of_length_le (by have := ho.out; omega)
      rw [ht32] at hsl
      have hconv := hsl.conv (P := Try.prog) (n := 32) ho.out 42 5 9 Try.underlying42 Try.underlying5 Try.underlying9 c
      replace hsl := Lib.hid hsl
      replace hown := Lib.hid hown
      replace hgt := Lib.hid hgt
      replace ht32 := Lib.hid ht32
      go_wp2
      go_ret
      exact ⟨rfl, ht⟩

end Go.Proofs.Ytfnmnmjpcamkiaa

namespace Go.Proofs.Ytfnmnmjpcamkiaa
open Go.RowKit
set_option linter.unusedVariables false
set_option linter.unusedSimpArgs false

theorem hex_ok : hexOk hexB nineB.data.toList := by
  refine ⟨by decide +kernel, by decide +kernel, fun k hk => ?_⟩
  have h : ∀ k : Fin 32, (match hexB.data.toList[2 * k.val]?, hexB.data.toList[2 * k.val + 1]?, nineB.data.toList[k.val]? with
    | some x, some y, some z => dgOk x.toNat && dgOk y.toNat && (z.toNat == 16 * dgV x.toNat + dgV y.toNat)
    | _, _, _ => false) = true := by decide +kernel
  have hk2 := h ⟨k, hk⟩
  simp only [] at hk2
  split at hk2
  · rename_i x y z e1 e2 e3
    simp only [Bool.and_eq_true, beq_iff_eq] at hk2
    exact ⟨x, y, z, e1, e2, e3, hk2.1.1, hk2.1.2, hk2.2⟩
  · cases hk2

theorem timesR_nine : timesR (enc 9) (enc 9) = (nineB, 0) := by
  unfold timesR
  rw [if_pos ⟨enc_size _, enc_size _⟩, timesB_nine]

set_option maxRecDepth 100000 in
theorem curveWorks_any (w : World) : Calls Try.prog 40 #[] w fun r w' => r = .returned (.bool true) ∧ Touch Nothing w w' := by
  have hS : ∀ w, Calls Try.prog 21 #[.int .i64 9] w fun r w' => r = .returned (.tuple #[.string (enc 9), .int .i64 0]) ∧ Touch Nothing w w' := fun w => small_yes w 9 (by omega) (by omega)
  have hT := fun w => Times_lay w (enc 9) (enc 9)
  rw [timesR_nine] at hT
  simp only [] at hT
  have hH := fun w => hex_any w hexB nineB.data.toList hex_ok
  rw [show (⟨nineB.data.toList.toArray⟩ : ByteArray) = nineB from rfl] at hH
  unfold hexB at hH
  obtain ⟨n, hn⟩ : ∃ n, n = nineB := ⟨_, rfl⟩
  rw [← hn] at hT hH
  obtain ⟨x, hx⟩ : ∃ x, x = enc 9 := ⟨_, rfl⟩
  rw [← hx] at hT hS
  have hx32 : x.size = 32 := by rw [hx, enc_size]
  have hx32i : (x.size : Int) = 32 := by omega
  replace hT := Lib.hid hT
  replace hx := Lib.hid hx
  replace hS := Lib.hid hS
  replace hH := Lib.hid hH
  clear hn
  go_enter Try.func40, Try.ntmps40
  go_upto_region 3 with (first | (go_at_call 21; refine (hS.out _).mono ?_; rintro r w2 ⟨rfl, ht⟩) | (go_at_call 36; refine (hT.out _).mono ?_; rintro r w3 ⟨rfl, ht3⟩))
  go_wp2_with (first | (go_at_call 73; refine (hH.out _).mono ?_; rintro r w4 ⟨rfl, ht4⟩))
  go_ret
  exact ⟨rfl, (ht.trans' ht3).trans' ht4⟩

end Go.Proofs.Ytfnmnmjpcamkiaa

namespace Go.Proofs.Ytfnmnmjpcamkiaa
open Go.RowKit
set_option linter.unusedVariables false
set_option linter.unusedSimpArgs false

def clampR (k : ByteArray) : Res := if k.size = 32 then (enc (clampN (decL k.data.toList) : Nat), 0) else (noB, 3)

set_option maxRecDepth 100000 in
theorem Clamp_lay (w : World) (k : ByteArray) : Calls Try.prog 38 #[.string k] w fun r w' => r = .returned (.tuple #[.string (clampR k).1, .int .i64 (clampR k).2]) ∧ Touch Nothing w w' := by
  obtain ⟨x, hx⟩ : ∃ x, x = clampR k := ⟨_, rfl⟩
  rw [← hx]
  unfold clampR at hx
  by_cases hk : k.size = 32
  · rw [if_pos hk] at hx
    obtain ⟨n, hn⟩ : ∃ n, n = clampN (decL k.data.toList) := ⟨_, rfl⟩
    obtain ⟨A, hc⟩ : ∃ A, A = bytesTo n 32 := ⟨_, rfl⟩
    have hrow : Row32 n A := by rw [hc]; exact row32 n
    have hclm := fun w => clamped_to w k hk A (by rw [← hn]; exact hc)
    have hlist : A.toList = (encL n 32).map byteV := by rw [hc, bytesTo_all]
    rw [← hn] at hx
    have hxe : (⟨(encL n 32).toArray⟩ : ByteArray) = x.1 := by rw [hx]; rfl
    have hx0 : x.2 = 0 := by rw [hx]
    have e1 : ((k.size : Int) == 32) = true := by simp [hk]
    have e2 : ((k.size : Int) != 32) = false := by simp [hk]
    have e5 : (k.size : Int) = 32 := by omega
    clear hk hc hn hx
    replace hrow := Lib.hid hrow
    replace hclm := Lib.hid hclm
    replace hlist := Lib.hid hlist
    replace hxe := Lib.hid hxe
    replace hx0 := Lib.hid hx0
    go_enter Try.func38, Try.ntmps38
    go_upto_region 3 with fail
    refine wp_region_list (wpList_plain rfl fun K hK => ?_)
    go_step
    go_step
    go_step
    go_step
    go_at_call 72
    refine (hclm.out _).mono ?_
    rintro r w2 ⟨rfl, ht2⟩
    obtain ⟨w3, hst, hg3, ht3⟩ := store32 w2 n A hrow.out
    unfold zero32 at hst
    have hsz := hrow.out.size
    have hsl : SlB w3 (some ⟨w2.heap.size, 0, none⟩) 32 (encL n 32) := by
      refine ⟨by rw [encL_length]; omega, fun i hi => ⟨_, _, rfl, ?_⟩⟩
      rw [Nat.zero_add, cell_blk hg3, ← Array.getElem?_toList, hlist.out, List.getElem?_map, List.getElem?_eq_getElem hi]
      rfl
    have hconv := hsl.conv (P := Try.prog) (n := 32) (encL_length _ _) 42 5 9 Try.underlying42 Try.underlying5 Try.underlying9 32
    rw [hxe.out] at hconv
    replace hsl := Lib.hid hsl
    replace hg3 := Lib.hid hg3
    replace ht2 := Lib.hid (ht2.trans' ht3)
    clear ht3
    go_wp2
    go_ret2
    exact ⟨by rw [hx0.out]; rfl, ht2.out⟩
  · rw [if_neg hk] at hx
    subst hx
    have e4 : ((k.size : Int) != 32) = true := by simp; omega
    have e6 : ¬ (k.size : Int) = 32 := by omega
    clear hk
    go_enter Try.func38, Try.ntmps38
    go_wp2
    go_ret2
    exact ⟨rfl, Touch.refl _ _⟩

end Go.Proofs.Ytfnmnmjpcamkiaa
