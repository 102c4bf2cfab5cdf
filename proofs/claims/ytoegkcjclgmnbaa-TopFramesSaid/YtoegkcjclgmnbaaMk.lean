/-
  Layer 11 (mail): what a message's text is made of, plain.
-/
import Derived.Test.YtoegkcjclgmnbaaMj
namespace Go.Proofs.Ytoegkcjclgmnbaa
open Go.RowKit
set_option linter.unusedVariables false
set_option linter.unusedSimpArgs false

/-- A slot that may be. -/
def OkS (x : ByteArray × ByteArray) : Prop := x = slot0 ∨ (x.1.size = 16 ∧ x.1 ≠ noId ∧ x.2.size ≤ 222)
def zero16 : List UInt8 := [0, 0, 0, 0, 0, 0, 0, 0, 0, 0, 0, 0, 0, 0, 0, 0]
/-- The ids among pieces of sixteen bytes. -/
def idsOf : List (List UInt8) → List ByteArray
  | [] => []
  | p :: r => if p = zero16 then idsOf r else ⟨p.toArray⟩ :: idsOf r

theorem lead_ok (L : List (ByteArray × ByteArray)) (h : filled L = true) : L.length = 4 ∧ ∀ x ∈ L, OkS x := by
  unfold filled at h
  simp only [Bool.and_eq_true, decide_eq_true_eq, Bool.not_eq_true'] at h
  refine ⟨h.1, fun x hx => ?_⟩
  obtain ⟨j, hj, rfl⟩ := List.mem_iff_getElem.1 hx
  by_cases q : j < lead L
  · have := lead_lt L j hj q
    unfold entry isId at this
    simp at this
    exact .inr ⟨this.1.1, this.1.2, this.2⟩
  · have h2 := List.any_eq_false.1 h.2 L[j] (by
      rw [List.mem_iff_getElem]
      exact ⟨j - lead L, by rw [List.length_drop]; omega, by rw [List.getElem_drop]; congr 1; omega⟩)
    exact .inl (by simpa using h2)

theorem OkS.le {x : ByteArray × ByteArray} (h : OkS x) : x.1.size ≤ 16 ∧ x.2.size ≤ 222 := by
  rcases h with rfl | ⟨h1, _, h2⟩
  · exact ⟨Nat.zero_le _, Nat.zero_le _⟩
  · exact ⟨by omega, h2⟩

theorem size_zero {s : ByteArray} (h : s.size = 0) : s = e0 := by
  apply ByteArray.ext
  exact Array.eq_empty_of_size_eq_zero h
theorem ba_tx (s : ByteArray) : (⟨(tx s).toArray⟩ : ByteArray) = s := by
  apply ByteArray.ext
  simp [tx]
theorem tx_inj {s t : ByteArray} (h : tx s = tx t) : s = t := by rw [← ba_tx s, ← ba_tx t, h]
theorem bt_nat (n : Nat) (h : n < 256) : (bt n).toNat = n := by unfold bt; simp; omega

/-- The id in a slot's text, and its text. -/
theorem slot_read {x : ByteArray × ByteArray} (h : OkS x) : (padl 16 x.1).length = 16 ∧ (padl 222 x.2).length = 222 ∧ (bt x.2.size).toNat = x.2.size ∧ x.2.size ≤ 222 ∧ (⟨((padl 222 x.2).take x.2.size).toArray⟩ : ByteArray) = x.2 ∧
    ((padl 16 x.1 = zero16 ∧ x.1 = e0) ∨ (padl 16 x.1 ≠ zero16 ∧ (⟨(padl 16 x.1).toArray⟩ : ByteArray) = x.1)) := by
  have hl := h.le
  refine ⟨padl_len _ _ hl.1, padl_len _ _ hl.2, bt_nat _ (by omega), hl.2, ?_, ?_⟩
  · unfold padl
    rw [List.take_append_of_le_length (by rw [tx_len]; exact Nat.le_refl _), List.take_of_length_le (by rw [tx_len]; exact Nat.le_refl _), ba_tx]
  · rcases h with rfl | ⟨h1, h2, _⟩
    · exact .inl ⟨by decide, rfl⟩
    · have e : padl 16 x.1 = tx x.1 := by unfold padl; rw [h1]; simp
      refine .inr ⟨fun q => h2 (tx_inj (by rw [← e, q]; rfl)), by rw [e, ba_tx]⟩

theorem ids_app (P Q : List (List UInt8)) : idsOf (P ++ Q) = idsOf P ++ idsOf Q := by
  induction P with
  | nil => rfl
  | cons p r ih =>
    rw [List.cons_append, idsOf, idsOf, ih]
    split
    · rfl
    · rfl
theorem ids_zero : ∀ n, idsOf (List.replicate n zero16) = []
  | 0 => rfl
  | n + 1 => by rw [List.replicate_succ, idsOf, if_pos rfl, ids_zero n]
theorem ids_map : ∀ (L : List ByteArray), (∀ x ∈ L, x ≠ noId) → idsOf (L.map tx) = L
  | [], _ => rfl
  | x :: r, h => by
    rw [List.map_cons, idsOf, if_neg (fun q => h x List.mem_cons_self (tx_inj (by rw [q]; rfl))), ids_map r fun y hy => h y (List.mem_cons_of_mem _ hy), ba_tx]

theorem flat_zero (n : Nat) : (List.replicate n zero16).flatten = List.replicate (16 * n) 0 := by
  induction n with
  | zero => rfl
  | succ n ih =>
    rw [List.replicate_succ, List.flatten_cons, ih, show zero16 = List.replicate 16 0 from rfl, List.replicate_append_replicate]
    congr 1
    omega

/-- What the rest of the text is made of. -/
def Rst (m : Ml) (R : List UInt8) (S : List (ByteArray × ByteArray)) (I : List ByteArray) : Prop :=
  (m.k = 3 ∧ I = m.i ∧ ∃ P, R = P.flatMap slB ∧ S ++ P = m.s ∧ ∀ x ∈ P, OkS x) ∨
  (m.k ≠ 3 ∧ S = m.s ∧ ∃ P, R = P.flatten ∧ I ++ idsOf P = m.i ∧ ∀ p ∈ P, p.length = 16)

theorem Rst.done {m : Ml} {S : List (ByteArray × ByteArray)} {I : List ByteArray} (h : Rst m [] S I) : S = m.s ∧ I = m.i := by
  rcases h with ⟨_, h1, P, h2, h3, h4⟩ | ⟨_, h1, P, h2, h3, h4⟩
  · cases P with
    | nil => exact ⟨by simpa using h3, h1⟩
    | cons x r =>
      have := congrArg List.length h2
      rw [List.flatMap_cons, List.length_append, slB_len x (h4 x List.mem_cons_self).le] at this
      simp at this
      omega
  · cases P with
    | nil => exact ⟨h1, by simpa [idsOf] using h3⟩
    | cons x r =>
      have := congrArg List.length h2
      rw [List.flatten_cons, List.length_append, h4 x List.mem_cons_self] at this
      simp at this
      omega

/-- The next piece of a list of slots. -/
theorem Rst.slot {m : Ml} {R : List UInt8} {S : List (ByteArray × ByteArray)} {I : List ByteArray} (h : Rst m R S I) (hR : R ≠ []) (hk : m.k = 3) : ∃ x R', OkS x ∧ R = padl 16 x.1 ++ (bt x.2.size :: (padl 222 x.2 ++ R')) ∧ Rst m R' (S ++ [x]) I := by
  rcases h with ⟨hk, h1, P, h2, h3, h4⟩ | ⟨h0, _⟩
  · cases P with
    | nil => exact absurd h2 hR
    | cons x r =>
      refine ⟨x, r.flatMap slB, h4 x List.mem_cons_self, ?_, .inl ⟨hk, h1, r, rfl, by simpa using h3, fun y hy => h4 y (List.mem_cons_of_mem _ hy)⟩⟩
      rw [h2, List.flatMap_cons]
      simp [slB]
  · exact absurd hk h0
/-- The next piece of a list of ids. -/
theorem Rst.id {m : Ml} {R : List UInt8} {S : List (ByteArray × ByteArray)} {I : List ByteArray} (h : Rst m R S I) (hR : R ≠ []) (hk : m.k ≠ 3) : ∃ p R', p.length = 16 ∧ R = p ++ R' ∧ ((p = zero16 ∧ Rst m R' S I) ∨ (p ≠ zero16 ∧ Rst m R' S (I ++ [⟨p.toArray⟩]))) := by
  rcases h with ⟨h0, _⟩ | ⟨hk, h1, P, h2, h3, h4⟩
  · exact absurd h0 hk
  · cases P with
    | nil => exact absurd h2 hR
    | cons p r =>
      refine ⟨p, r.flatten, h4 p List.mem_cons_self, by rw [h2, List.flatten_cons], ?_⟩
      have h5 : ∀ y ∈ r, y.length = 16 := fun y hy => h4 y (List.mem_cons_of_mem _ hy)
      by_cases q : p = zero16
      · exact .inl ⟨q, .inr ⟨hk, h1, r, rfl, by rw [← h3, idsOf, if_pos q], h5⟩⟩
      · exact .inr ⟨q, .inr ⟨hk, h1, r, rfl, by rw [← h3, idsOf, if_neg q]; simp, h5⟩⟩

theorem tx_e0 : tx e0 = [] := rfl

theorem one_facts {m : Ml} (hc : chkM m = true) (hk : m.k = 1) : m.u = 0 ∧ m.q = 0 ∧ m.x.size = 504 ∧ m.g = e0 ∧ m.s = [] ∧ m.i = [] := by
  unfold chkM at hc
  rw [if_pos hk] at hc
  simp [nobM] at hc
  obtain ⟨⟨h1, h2⟩, h3, h4, h5, h6⟩ := hc
  exact ⟨h1, h2, h3, h4, List.eq_nil_of_length_eq_zero (by simpa using h5), List.eq_nil_of_length_eq_zero (by simpa using h6)⟩

theorem q_bytes (q : Int) (h0 : 0 ≤ q) (h1 : q ≤ 2147483647) : ((((bt (q / 16777216)).toNat * 256 + (bt (q / 65536)).toNat) * 256 + (bt (q / 256)).toNat) * 256 + (bt q).toNat : Nat) = q.toNat := by
  have e : ∀ n : Int, 0 ≤ n → (bt n).toNat = n.toNat % 256 := fun n hn => by unfold bt; simp; omega
  rw [e _ (by omega), e _ (by omega), e _ (by omega), e _ h0]
  omega

/-- The text of another kind. -/
theorem text_more {m : Ml} (hc : chkM m = true) (hk : m.k ≠ 1) : (0 ≤ m.u ∧ m.u < 64) ∧ (0 ≤ m.q ∧ m.q ≤ 2147483647) ∧ (m.k = 2 ∨ m.k = 3 ∨ m.k = 4) ∧ m.x = e0 ∧ (m.k = 3 → m.g = e0) ∧ (m.k ≠ 3 → m.g.size = 32) ∧
    ∃ R, encM m = bt m.k :: bt m.u :: bt (m.q / 16777216) :: bt (m.q / 65536) :: bt (m.q / 256) :: bt m.q :: (tx m.g ++ R) ∧ Rst m R [] [] := by
  have hl := (more_facts hc hk).2.2.2.2.2.2.2
  have hE : encM m = bodyM m ++ List.replicate (longM m.k - (bodyM m).length) 0 := by unfold encM; rw [if_neg hk]
  have hb : (bodyM m).length = 6 + m.g.size + (m.s.flatMap slB).length + (m.i.flatMap tx).length := by
    unfold bodyM
    simp only [List.length_cons, List.length_append, tx_len]
    omega
  have hB : ∀ Z R : List UInt8, m.s.flatMap slB ++ m.i.flatMap tx ++ Z = R → bodyM m ++ Z = bt m.k :: bt m.u :: bt (m.q / 16777216) :: bt (m.q / 65536) :: bt (m.q / 256) :: bt m.q :: (tx m.g ++ R) := by
    intro Z R h
    rw [← h]
    unfold bodyM
    simp
  unfold chkM at hc
  rw [if_neg hk] at hc
  by_cases h2 : m.k = 2
  · rw [if_pos h2] at hc
    simp [whoM] at hc
    obtain ⟨⟨u1, u2, q1, q2⟩, hx, hg, hs, hi⟩ := hc
    have hs' : m.s = [] := List.eq_nil_of_length_eq_zero (by simpa using hs)
    have hi' : m.i = [] := List.eq_nil_of_length_eq_zero (by simpa using hi)
    refine ⟨⟨u1, u2⟩, ⟨by omega, q2⟩, .inl h2, hx, fun h => by omega, fun _ => hg, [], ?_, .inr ⟨by omega, hs'.symm, [], rfl, by rw [hi']; rfl, fun p hp => by cases hp⟩⟩
    rw [hE, hB _ [] (by rw [hs', hi', hb, hs', hi', hg, h2]; rfl)]
  · rw [if_neg h2] at hc
    by_cases h3 : m.k = 3
    · rw [if_pos h3] at hc
      simp [whoM] at hc
      obtain ⟨⟨u1, u2, q1, q2⟩, hx, hg, hs, hi⟩ := hc
      obtain ⟨hs1, hs2⟩ := lead_ok m.s hs
      have hi' : m.i = [] := List.eq_nil_of_length_eq_zero (by simpa using hi)
      have hg0 : m.g.size = 0 := by rw [hg]; rfl
      refine ⟨⟨u1, u2⟩, ⟨by omega, q2⟩, .inr (.inl h3), hx, fun _ => hg, fun h => absurd h3 h, m.s.flatMap slB, ?_, .inl ⟨h3, hi'.symm, m.s, rfl, rfl, hs2⟩⟩
      have hz : longM m.k - (bodyM m).length = 0 := by
        rw [hb, hi', flat_slB _ (fun x hx => (hs2 x hx).le), hs1, hg0, h3]
        decide
      rw [hE, hz, hB _ (m.s.flatMap slB) (by rw [hi']; simp)]
    · rw [if_neg h3] at hc
      by_cases h4 : m.k = 4
      · rw [if_pos h4] at hc
        simp [whoM] at hc
        obtain ⟨⟨u1, u2, q1, q2⟩, hx, hg, hs, hi1, hi2⟩ := hc
        have hs' : m.s = [] := List.eq_nil_of_length_eq_zero (by simpa using hs)
        have hi3 : ∀ x ∈ m.i, x.size = 16 := fun x hx => isId_size (hi2 x hx)
        have hi4 : ∀ x ∈ m.i, x ≠ noId := fun x hx => by have := hi2 x hx; unfold isId at this; simp at this; exact this.2
        have hL : longM 4 = 102 := by decide
        refine ⟨⟨u1, u2⟩, ⟨by omega, q2⟩, .inr (.inr h4), hx, fun h => absurd h h3, fun _ => hg, (m.i.map tx ++ List.replicate (4 - m.i.length) zero16).flatten, ?_, .inr ⟨h3, hs'.symm, _, rfl, ?_, fun p hp => ?_⟩⟩
        · rw [hE, hB]
          rw [List.flatten_append, flat_zero, hs', hb, hs', flat_ids _ hi3, hg, h4, hL]
          have e : 102 - (6 + 32 + (([] : List (ByteArray × ByteArray)).flatMap slB).length + 16 * m.i.length) = 16 * (4 - m.i.length) := by
            simp
            omega
          rw [e]
          simp [List.flatMap]
        · rw [ids_app, ids_zero, ids_map _ hi4]
          simp
        · rcases List.mem_append.1 hp with q | q
          · obtain ⟨x, hx, rfl⟩ := List.mem_map.1 q
            rw [tx_len, hi3 x hx]
          · rw [List.mem_replicate.1 q |>.2]
            rfl
      · rw [if_neg h4] at hc
        cases hc

end Go.Proofs.Ytoegkcjclgmnbaa
