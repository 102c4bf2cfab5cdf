/-
  Layer 23: what a ledger holds while loops are sent and come back tick by tick. No program in sight.
-/
import Derived.Test.YtikjcobdddjlbaaBck
import Derived.Test.YtikjcobdddjlbaaSml
namespace Go.Proofs.Ytikjcobdddjlbaa
set_option linter.unusedVariables false
set_option linter.unusedSimpArgs false
set_option linter.unusedSectionVars false

/-- The loops' plan: m loops; S: when each is sent; B: when it comes back (below 0: never). -/
structure Plan (W D : Int) (m : Nat) (S B : Nat → Int) : Prop where
  hW : 1 ≤ W ∧ W ≤ 1000
  hD : 1 ≤ D ∧ D ≤ 1000
  hm : m ≤ 60
  mono : ∀ i j, i ≤ j → j < m → S i ≤ S j
  hS : ∀ j, j < m → 0 ≤ S j ∧ S j ≤ 100000
  hB : ∀ j, j < m → B j = -1 ∨ (S j < B j ∧ B j < S j + W + D)

def idS (j : Nat) : ByteArray := ⟨(idB j).toArray⟩

def isSent (S : Nat → Int) (t : Int) (i j : Nat) : Bool := decide (S j < t) || (decide (S j = t) && decide (j < i))
def isBack (B : Nat → Int) (t : Int) (i j : Nat) : Bool := decide (0 ≤ B j) && (decide (B j < t) || (decide (B j = t) && decide (j < i)))

def entry (S B : Nat → Int) (t : Int) (i j : Nat) : Lp := ⟨idS j, S j, isBack B t i j⟩
def keeps (W D : Int) (S : Nat → Int) (t : Int) (i : Nat) (now : Int) (j : Nat) : Bool := isSent S t i j && decide (now - W - D < S j)

/-- The ledger at tick t, the loops below i done, its own tick being 'now'. -/
def led (W D H : Int) (m : Nat) (S B : Nat → Int) (t : Int) (i : Nat) (now : Int) : Lg :=
  ⟨W, D, H, now, ((List.range m).filter (keeps W D S t i now)).map (entry S B t i)⟩

section
variable {W D H : Int} {m : Nat} {S B : Nat → Int} (h : Plan W D m S B)
include h

theorem led_next (t now : Int) : led W D H m S B t m now = led W D H m S B (t + 1) 0 now := by
  unfold led
  congr 1
  have e : ∀ j ∈ List.range m, keeps W D S t m now j = keeps W D S (t + 1) 0 now j := by
    intro j hj
    have hj := List.mem_range.1 hj
    unfold keeps isSent
    have : (decide (S j < t) || (decide (S j = t) && decide (j < m))) = (decide (S j < t + 1) || (decide (S j = t + 1) && decide (j < 0))) := by
      rw [Bool.eq_iff_iff]; simp; omega
    rw [this]
  rw [List.filter_congr e]
  refine List.map_congr_left fun j hj => ?_
  have hj := List.mem_range.1 (List.mem_filter.1 hj).1
  unfold entry
  congr 1
  unfold isBack
  rw [Bool.eq_iff_iff]; simp; omega

theorem led_skip {t now : Int} {i : Nat} (hs : S i ≠ t) (hb : B i ≠ t) : led W D H m S B t i now = led W D H m S B t (i + 1) now := by
  unfold led
  congr 1
  have e : ∀ j ∈ List.range m, keeps W D S t i now j = keeps W D S t (i + 1) now j := by
    intro j hj
    unfold keeps isSent
    have : (decide (S j < t) || (decide (S j = t) && decide (j < i))) = (decide (S j < t) || (decide (S j = t) && decide (j < i + 1))) := by
      by_cases q : j = i
      · subst q; simp [hs]
      · rw [Bool.eq_iff_iff]; simp; omega
    rw [this]
  rw [List.filter_congr e]
  refine List.map_congr_left fun j hj => ?_
  unfold entry
  congr 1
  unfold isBack
  by_cases q : j = i
  · subst q; simp [hb]
  · rw [Bool.eq_iff_iff]; simp; omega

theorem led_move {t now : Int} {i : Nat} (hn : now ≤ t) (h0 : 0 ≤ now) (ht : t ≤ 1000000) : (led W D H m S B t i now).move t = (0, led W D H m S B t i t) := by
  unfold Lg.move led
  simp only []
  rw [if_neg (by omega), if_neg (by omega)]
  congr 1
  congr 1
  rw [List.filter_map, List.filter_filter]
  congr 1
  refine List.filter_congr fun j hj => ?_
  unfold keeps oldAt entry
  simp only [Function.comp]
  rw [Bool.eq_iff_iff]
  simp
  constructor
  · rintro ⟨a, b, c⟩; exact ⟨b, a⟩
  · rintro ⟨a, b⟩; exact ⟨b, a, by omega⟩

theorem led_move_same {t : Int} {i : Nat} (h0 : 0 ≤ t) (ht : t ≤ 1000000) : (led W D H m S B t i t).move t = (0, led W D H m S B t i t) :=
  led_move h (Int.le_refl t) h0 ht
end

theorem filter_last {m i : Nat} {p q : Nat → Bool} (hi : i < m) (h1 : ∀ j, j < i → q j = p j) (h2 : q i = true) (h3 : p i = false)
    (h4 : ∀ j, i < j → j < m → q j = false ∧ p j = false) : (List.range m).filter q = (List.range m).filter p ++ [i] := by
  induction m with
  | zero => omega
  | succ n ih =>
    rw [List.range_succ, List.filter_append, List.filter_append]
    by_cases e : i = n
    · subst e
      rw [List.filter_congr fun j hj => h1 j (List.mem_range.1 hj)]
      simp [h2, h3]
    · obtain ⟨a, b⟩ := h4 n (by omega) (by omega)
      rw [ih (by omega) fun j x y => h4 j x (by omega)]
      simp [a, b]

theorem idS_ne {i j : Nat} (hi : i ≤ 60) (hj : j ≤ 60) (h : i ≠ j) : idS i ≠ idS j := by
  intro e
  have e1 := congrArg (fun b : ByteArray => b.data.toList) e
  simp only [idS, idB] at e1
  have e2 := (List.cons.inj e1).1
  have e3 := congrArg UInt8.toNat e2
  simp at e3
  omega

theorem idS_size (i : Nat) : (idS i).size = 16 := rfl

section
variable {W D H : Int} {m : Nat} {S B : Nat → Int} (h : Plan W D m S B)
include h

theorem led_sent {t now : Int} {i : Nat} (hn : now ≤ t) (h0 : 0 ≤ now) (ht : t ≤ 1000000) (hi : i < m) (hs : S i = t) :
    (led W D H m S B t i now).sent t (idS i) = (0, led W D H m S B t (i + 1) t) := by
  have hm := h.hm
  have hmv := led_move h (H := H) (i := i) hn h0 ht
  have hW := h.hW
  have hD := h.hD
  have hBi := h.hB i hi
  have hno : hasB (led W D H m S B t i t).l (idS i) = false := by
    unfold hasB led
    simp only [List.any_map, List.any_eq_false, List.mem_filter, List.mem_range, Function.comp]
    rintro j ⟨hj, hk⟩
    have hji : j ≠ i := by
      rintro rfl
      unfold keeps isSent at hk
      simp [hs] at hk
    have := idS_ne (i := j) (j := i) (by omega) (by omega) hji
    exact fun e => this (of_decide_eq_true e)
  have hlen : ¬ 4096 ≤ (led W D H m S B t i t).l.length := by
    have : (led W D H m S B t i t).l.length ≤ m := by
      unfold led
      simp only [List.length_map]
      have := List.length_filter_le (keeps W D S t i t) (List.range m)
      simpa using this
    omega
  unfold Lg.sent
  rw [hmv]
  simp only [ne_eq, not_true_eq_false, if_false]
  rw [if_neg (by rw [idS_size]; simp), hno, if_neg (by simp), if_neg hlen]
  congr 1
  unfold led
  simp only []
  congr 1
  have hf : (List.range m).filter (keeps W D S t (i + 1) t) = (List.range m).filter (keeps W D S t i t) ++ [i] := by
    refine filter_last hi (fun j hj => ?_) ?_ ?_ fun j hij hj => ?_
    · unfold keeps isSent
      rw [Bool.eq_iff_iff]; simp; omega
    · unfold keeps isSent
      simp [hs]; omega
    · unfold keeps isSent
      simp [hs]
    · have := h.mono i j (by omega) hj
      unfold keeps isSent
      constructor
      · simp; omega
      · simp; omega
  rw [hf, List.map_append]
  congr 1
  · refine List.map_congr_left fun j hj => ?_
    have hk := (List.mem_filter.1 hj).2
    have hji : j ≠ i := by
      rintro rfl
      unfold keeps isSent at hk
      simp [hs] at hk
    unfold entry isBack
    congr 1
    rw [Bool.eq_iff_iff]; simp; omega
  · simp only [List.map_cons, List.map_nil, entry, hs]
    congr 2
    unfold isBack
    symm
    simp; omega

theorem back1_entry {t : Int} {i : Nat} {L : List Nat} (hL : L.Nodup) (hi : i ∈ L) (hl : ∀ j ∈ L, j < m) (hb : B i = t) (h0 : 0 ≤ t) :
    back1 (L.map (entry S B t i)) (idS i) = (0, L.map (entry S B t (i + 1))) := by
  have hm := h.hm
  induction L with
  | nil => simp at hi
  | cons k r ih =>
    have hk := hl k (List.mem_cons_self ..)
    have hil := hl i hi
    simp only [List.map_cons]
    unfold back1
    by_cases e : k = i
    · subst e
      have hr : r.map (entry S B t k) = r.map (entry S B t (k + 1)) := by
        refine List.map_congr_left fun j hj => ?_
        have hjk : j ≠ k := by
          rintro rfl
          exact (List.nodup_cons.1 hL).1 hj
        unfold entry isBack
        congr 1
        rw [Bool.eq_iff_iff]; simp; omega
      rw [if_pos (show (entry S B t k k).id = idS k from rfl), hr]
      have hc : (entry S B t k k).came = false := by
        unfold entry isBack; simp; omega
      rw [hc, if_neg (by simp)]
      congr 2
      unfold entry isBack
      simp [hb, h0]
    · have hik : i ∈ r := by
        rcases List.mem_cons.1 hi with q | q
        · exact absurd q.symm e
        · exact q
      rw [if_neg (show ¬ (entry S B t i k).id = idS i from idS_ne (by omega) (by omega) e), ih (List.nodup_cons.1 hL).2 hik fun j hj => hl j (List.mem_cons_of_mem _ hj)]
      congr 2
      unfold entry isBack
      congr 1
      rw [Bool.eq_iff_iff]; simp; omega

theorem led_back {t now : Int} {i : Nat} (hn : now ≤ t) (h0 : 0 ≤ now) (ht : t ≤ 1000000) (hi : i < m) (hb : B i = t) :
    (led W D H m S B t i now).back t (idS i) = (0, led W D H m S B t (i + 1) t) := by
  have hm := h.hm
  have hmv := led_move h (H := H) (i := i) hn h0 ht
  have hW := h.hW
  have hD := h.hD
  have hBi := h.hB i hi
  unfold Lg.back
  rw [hmv]
  simp only [ne_eq, not_true_eq_false, if_false]
  have hbk := back1_entry h (t := t) (i := i) (L := (List.range m).filter (keeps W D S t i t)) (List.nodup_range.filter _)
    (List.mem_filter.2 ⟨List.mem_range.2 hi, by unfold keeps isSent; simp; omega⟩) (fun j hj => List.mem_range.1 (List.mem_filter.1 hj).1) hb (by omega)
  have e : (led W D H m S B t i t).l = ((List.range m).filter (keeps W D S t i t)).map (entry S B t i) := rfl
  rw [e, hbk]
  simp only []
  congr 1
  unfold led
  simp only []
  congr 1
  have : ∀ j ∈ List.range m, keeps W D S t i t j = keeps W D S t (i + 1) t j := by
    intro j hj
    unfold keeps isSent
    rw [Bool.eq_iff_iff]
    by_cases q : j = i
    · subst q; simp; omega
    · simp; omega
  rw [List.filter_congr this]

/-- Is a loop late at t? -/
def lateJ (W D : Int) (S B : Nat → Int) (t : Int) (j : Nat) : Bool := decide (t - W - D < S j) && (decide (S j ≤ t - D) && !(decide (0 ≤ B j) && decide (B j ≤ t)))

theorem led_late {t now : Int} (hn : now ≤ t) (h0 : 0 ≤ now) (ht : t ≤ 1000000) :
    (led W D H m S B t m now).late t = (((((List.range m).countP (lateJ W D S B t) : Nat) : Int), (0 : Int)), led W D H m S B t m t) := by
  have hmv := led_move h (H := H) (i := m) hn h0 ht
  have hW := h.hW
  have hD := h.hD
  unfold Lg.late
  rw [hmv]
  simp only [if_true]
  congr 2
  unfold led
  simp only []
  rw [List.countP_map, List.countP_filter]
  congr 1
  refine List.countP_congr fun j hj => ?_
  have hj := List.mem_range.1 hj
  unfold keeps isSent lateAt entry isBack lateJ
  simp only [Function.comp]
  simp
  omega

theorem led_none {t : Int} (i : Nat) (hl : ∀ j, j < m → lateJ W D S B t j = false) : (List.range m).countP (lateJ W D S B t) = 0 := by
  rw [List.countP_eq_zero]
  intro j hj
  rw [hl j (List.mem_range.1 hj)]
  simp

theorem led_end {t now : Int} {i : Nat} (ha : ∀ j, j < m → S j ≤ now - W - D) : led W D H m S B t i now = ⟨W, D, H, now, []⟩ := by
  unfold led
  congr 1
  rw [List.map_eq_nil_iff, List.filter_eq_nil_iff]
  intro j hj
  have := ha j (List.mem_range.1 hj)
  unfold keeps
  simp; omega

theorem led_first : led W D H m S B 0 0 0 = newLg W D H := by
  unfold led newLg
  congr 1
  rw [List.map_eq_nil_iff, List.filter_eq_nil_iff]
  intro j hj
  have := h.hS j (List.mem_range.1 hj)
  unfold keeps isSent
  simp; omega
end

end Go.Proofs.Ytikjcobdddjlbaa
