/-
  Layer 27: there and back, without the program: what is encoded is decoded, what is decoded is encoded as just those bytes.
-/
import Derived.Test.YtkoplgpobagfoaaBe
namespace Go.Proofs.Ytkoplgpobagfoaa
open Go.RowKit
set_option linter.unusedVariables false
set_option linter.unusedSimpArgs false

theorem chk_good (L : List Fr) : ∀ (last : Int) (k : Nat), (chk last k L).2 = 0 → ∀ x ∈ L, ¬ bad x := by
  induction L with
  | nil => intro last k h x hx; simp at hx
  | cons y r ih =>
    intro last k h x hx
    rw [chk] at h
    by_cases hb : bad y
    · rw [if_pos hb] at h; simp at h
    · rw [if_neg hb] at h
      by_cases hl : y.a < last
      · rw [if_pos hl] at h; simp at h
      · rw [if_neg hl] at h
        rcases List.mem_cons.1 hx with rfl | hx
        · exact hb
        · exact ih _ _ h x hx

theorem chkR_good {L : List Fr} (h : (chkR L).2 = 0) : ∀ x ∈ L, ¬ bad x := by
  unfold chkR at h
  by_cases hn : 65536 < L.length
  · rw [if_pos hn] at h; simp at h
  · rw [if_neg hn] at h; exact chk_good L 0 0 h

theorem encL_at (L : List Fr) (i j : Nat) (h : i < L.length) (hj : j < 16) : (encL L)[16 * i + j]? = (encF L[i])[j]? := by
  induction L generalizing i with
  | nil => simp at h
  | cons x r ih =>
    have e : encL (x :: r) = encF x ++ encL r := by unfold encL; rw [List.flatMap_cons]
    rw [e]
    cases i with
    | zero => rw [Nat.mul_zero, Nat.zero_add, List.getElem?_append_left (by rw [encF_len]; exact hj)]; rfl
    | succ i =>
      rw [List.getElem?_append_right (by rw [encF_len]; omega), encF_len, show 16 * (i + 1) + j - 16 = 16 * i + j by omega, ih i (by simpa using h)]
      rfl

/-- The bytes as a string. -/
def encS (L : List Fr) : ByteArray := ⟨(encL L).toArray⟩
theorem encS_size (L : List Fr) : (encS L).size = 16 * L.length := by
  have : (encS L).size = (encL L).length := by unfold encS; exact List.size_toArray
  rw [this, encL_len]; omega
theorem encS_gb (L : List Fr) (i j : Nat) (h : i < L.length) (hj : j < 16) : gb (encS L) (16 * i + j) = ((encF L[i])[j]?).getD 0 := by
  unfold gb encS
  rw [List.getD_eq_getElem?_getD, ← encL_at L i j h hj]

theorem word4 (n : Int) (h0 : 0 ≤ n) (h1 : n ≤ 4294967295) (a b c d : UInt8) (ha : a = b8 (n / 16777216)) (hb : b = b8 (n / 65536)) (hc : c = b8 (n / 256)) (hd : d = b8 n) :
    ((a.toNat * 16777216 + b.toNat * 65536 + c.toNat * 256 + d.toNat : Nat) : Int) = n := by
  subst ha hb hc hd
  have e0 := b8_nat (n / 16777216)
  have e1 := b8_nat (n / 65536)
  have e2 := b8_nat (n / 256)
  have e3 := b8_nat n
  omega

theorem encS_word (L : List Fr) (i m : Nat) (h : i < L.length) (hm : m < 4) (hb : ¬ bad L[i]) : wordAt (encS L) (16 * i + 4 * m) = wd L[i] m := by
  have hx : 0 ≤ wd L[i] m ∧ wd L[i] m ≤ 4294967295 := by
    unfold bad at hb
    rcases (by omega : m = 0 ∨ m = 1 ∨ m = 2 ∨ m = 3) with rfl | rfl | rfl | rfl <;> simp only [wd] <;> omega
  unfold wordAt
  refine word4 _ hx.1 hx.2 _ _ _ _ ?_ ?_ ?_ ?_
  · rw [encS_gb L i (4 * m) h (by omega)]
    rcases (by omega : m = 0 ∨ m = 1 ∨ m = 2 ∨ m = 3) with rfl | rfl | rfl | rfl <;> rfl
  · rw [Nat.add_assoc, encS_gb L i (4 * m + 1) h (by omega)]
    rcases (by omega : m = 0 ∨ m = 1 ∨ m = 2 ∨ m = 3) with rfl | rfl | rfl | rfl <;> rfl
  · rw [Nat.add_assoc, encS_gb L i (4 * m + 2) h (by omega)]
    rcases (by omega : m = 0 ∨ m = 1 ∨ m = 2 ∨ m = 3) with rfl | rfl | rfl | rfl <;> rfl
  · rw [Nat.add_assoc, encS_gb L i (4 * m + 3) h (by omega)]
    rcases (by omega : m = 0 ∨ m = 1 ∨ m = 2 ∨ m = 3) with rfl | rfl | rfl | rfl <;> rfl

theorem frames_enc (L : List Fr) (hb : ∀ x ∈ L, ¬ bad x) : framesN (encS L) L.length = L := by
  refine List.ext_getElem (framesN_len _ _) fun i h1 h2 => ?_
  have hg := hb L[i] (List.getElem_mem _)
  have e0 := encS_word L i 0 h2 (by omega) hg
  have e1 := encS_word L i 1 h2 (by omega) hg
  have e2 := encS_word L i 2 h2 (by omega) hg
  have e3 := encS_word L i 3 h2 (by omega) hg
  simp only [framesN, List.getElem_map, List.getElem_range, frAt]
  rw [Nat.mul_zero, Nat.add_zero] at e0
  rw [e0, show 16 * i + 4 = 16 * i + 4 * 1 by omega, e1, show 16 * i + 8 = 16 * i + 4 * 2 by omega, e2, show 16 * i + 12 = 16 * i + 4 * 3 by omega, e3]
  rfl

theorem dec_enc (L : List Fr) (h : (chkR L).2 = 0) : decR (encS L) = (L, 0) := by
  have e : (encS L).size / 16 = L.length := by rw [encS_size]; omega
  have f := frames_enc L (chkR_good h)
  unfold decR
  rw [if_neg (by rw [encS_size]; omega), e, f, if_neg (by simp [h])]

theorem b8_of (n : Int) (b : UInt8) (h : n % 256 = (b.toNat : Int)) : b8 n = b := by
  apply UInt8.toNat_inj.1
  have := b8_nat n
  omega

theorem bytes4_word (s : ByteArray) (k : Nat) : bytes4 (wordAt s k) = [gb s k, gb s (k + 1), gb s (k + 2), gb s (k + 3)] := by
  have h0 := (gb s k).toNat_lt
  have h1 := (gb s (k + 1)).toNat_lt
  have h2 := (gb s (k + 2)).toNat_lt
  have h3 := (gb s (k + 3)).toNat_lt
  unfold bytes4
  have hw : wordAt s k = (((gb s k).toNat * 16777216 + (gb s (k + 1)).toNat * 65536 + (gb s (k + 2)).toNat * 256 + (gb s (k + 3)).toNat : Nat) : Int) := rfl
  rw [b8_of _ (gb s k) (by rw [hw]; omega), b8_of _ (gb s (k + 1)) (by rw [hw]; omega), b8_of _ (gb s (k + 2)) (by rw [hw]; omega), b8_of _ (gb s (k + 3)) (by rw [hw]; omega)]

theorem encF_fr (s : ByteArray) (i : Nat) : encF (frAt s i) = (List.range 16).map fun j => gb s (16 * i + j) := by
  unfold encF frAt
  simp only [bytes4_word, Nat.add_assoc]
  rfl

theorem enc_frames (s : ByteArray) (n : Nat) (h : s.size = 16 * n) : encL (framesN s n) = s.data.toList := by
  have hs : s.data.toList.length = 16 * n := by rw [Array.length_toList]; exact h
  refine List.ext_getElem? fun k => ?_
  by_cases hk : k < 16 * n
  · have hi : k / 16 < (framesN s n).length := by rw [framesN_len]; omega
    have e : k = 16 * (k / 16) + k % 16 := by omega
    rw [e, encL_at _ _ _ hi (by omega)]
    have hf : (framesN s n)[k / 16] = frAt s (k / 16) := by simp [framesN]
    have hr : (List.range 16)[k % 16]? = some (k % 16) := by rw [List.getElem?_range]; omega
    rw [hf, encF_fr, List.getElem?_map, hr, Option.map_some]
    unfold gb
    rw [← e, List.getD_eq_getElem?_getD, List.getElem?_eq_getElem (by omega)]
    rfl
  · rw [List.getElem?_eq_none (by rw [encL_len, framesN_len]; omega), List.getElem?_eq_none (by omega)]

theorem dec_no (s : ByteArray) (h : (decR s).2 ≠ 0) : (decR s).1 = [] := by
  unfold decR at h ⊢
  split
  · rfl
  · split
    · rfl
    · rename_i h1 h2
      rw [if_neg h1, if_neg h2] at h
      simp at h

theorem enc_dec (s : ByteArray) (h : (decR s).2 = 0) : encR (decR s).1 = (s.data.toList, 0) := by
  unfold decR at h ⊢
  by_cases h1 : s.size % 16 ≠ 0
  · rw [if_pos h1] at h; simp at h
  · rw [if_neg h1] at h ⊢
    by_cases h2 : (chkR (framesN s (s.size / 16))).2 ≠ 0
    · rw [if_pos h2] at h; exact absurd h h2
    · rw [if_neg h2]
      have h3 : (chkR (framesN s (s.size / 16))).2 = 0 := by omega
      unfold encR
      rw [if_pos h3, enc_frames s (s.size / 16) (by omega)]

end Go.Proofs.Ytkoplgpobagfoaa
