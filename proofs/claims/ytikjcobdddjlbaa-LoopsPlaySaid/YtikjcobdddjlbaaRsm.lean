/-
  Layer 23, the document's ledger (all loops that ever were sent) beside the program's (those that are not forgotten): they answer alike. No program in sight.
-/
import Derived.Test.YtikjcobdddjlbaaBck
namespace Go.Proofs.Ytikjcobdddjlbaa
set_option linter.unusedVariables false
set_option linter.unusedSimpArgs false

/-- Is it known? -/
def kn (q : Lg) (x : Lp) : Bool := !oldAt q.W q.D q.now x

def Lg.rmove (q : Lg) (t : Int) : Int × Lg :=
  if t < q.now then (140, q) else if 1099511627776 < t then (1, q) else (0, { q with now := t })

def rhas (q : Lg) (id : ByteArray) : Bool := q.l.any fun x => decide (x.id = id) && kn q x

def Lg.rsent (q : Lg) (t : Int) (id : ByteArray) : Int × Lg :=
  match q.rmove t with
  | (e, m) => if e ≠ 0 then (e, m) else if id.size ≠ 16 then (3, m) else if rhas m id then (6, m) else if 4096 ≤ m.l.countP (kn m) then (2, m)
    else (0, { m with l := m.l ++ [⟨id, t, false⟩] })

def rback1 (k : Lp → Bool) : List Lp → ByteArray → Int × List Lp
  | [], _ => (5, [])
  | x :: r, id => if x.id = id ∧ k x = true then (if x.came then (6, x :: r) else (0, ⟨x.id, x.at_, true⟩ :: r)) else ((rback1 k r id).1, x :: (rback1 k r id).2)

def Lg.rback (q : Lg) (t : Int) (id : ByteArray) : Int × Lg :=
  match q.rmove t with
  | (e, m) => if e ≠ 0 then (e, m) else ((rback1 (kn m) m.l id).1, { m with l := (rback1 (kn m) m.l id).2 })

def rlateP (q : Lg) (x : Lp) : Bool := kn q x && lateAt q.D q.now x
def ropenP (q : Lg) (x : Lp) : Bool := kn q x && openAt x

def Lg.rlate (q : Lg) (t : Int) : (Int × Int) × Lg :=
  match q.rmove t with
  | (e, m) => ((if e = 0 then ((m.l.countP (rlateP m) : Nat) : Int) else 0, e), m)

/-- The two ledgers say the same. -/
structure Sm (s q : Lg) : Prop where
  W : s.W = q.W
  D : s.D = q.D
  H : s.H = q.H
  now : s.now = q.now
  l : s.l = q.l.filter (kn q)

theorem Sm.move {s q : Lg} (h : Sm s q) (t : Int) : (s.move t).1 = (q.rmove t).1 ∧ Sm (s.move t).2 (q.rmove t).2 := by
  unfold Lg.move Lg.rmove
  rw [h.now]
  split
  · exact ⟨rfl, h⟩
  · split
    · exact ⟨rfl, h⟩
    · rename_i h1 h2
      refine ⟨rfl, ⟨h.W, h.D, h.H, rfl, ?_⟩⟩
      show s.l.filter (fun x => !oldAt s.W s.D t x) = _
      rw [h.l, List.filter_filter, h.W, h.D]
      refine List.filter_congr fun x hx => ?_
      unfold kn oldAt
      rw [Bool.eq_iff_iff]
      simp
      omega

theorem move_pair {s q : Lg} (h : Sm s q) (t : Int) {e : Int} {m : Lg} (hm : q.rmove t = (e, m)) : ∃ m', s.move t = (e, m') ∧ Sm m' m := by
  have := h.move t
  rw [hm] at this
  exact ⟨(s.move t).2, Prod.ext this.1 rfl, this.2⟩

theorem rmove_now {q m : Lg} {t : Int} (h : q.rmove t = (0, m)) : m.now = t ∧ q.now ≤ t ∧ t ≤ 1099511627776 := by
  unfold Lg.rmove at h
  split at h
  · simp at h
  · split at h
    · simp at h
    · cases h; exact ⟨rfl, by omega, by omega⟩

theorem rmove_ok {q : Lg} (h : q.Ok) (t : Int) : (q.rmove t).2.Ok := by
  unfold Lg.rmove
  split
  · exact h
  · split
    · exact h
    · exact ⟨h.W, h.D, h.H, ⟨by have := h.now; show 0 ≤ t; omega, by show t ≤ _; omega⟩, h.at_, h.len⟩

theorem rmove_len (q : Lg) (t : Int) : (q.rmove t).2.l = q.l := by
  unfold Lg.rmove
  split
  · rfl
  · split <;> rfl

theorem has_filter (l : List Lp) (k : Lp → Bool) (id : ByteArray) : hasB (l.filter k) id = l.any fun x => decide (x.id = id) && k x := by
  unfold hasB
  induction l with
  | nil => rfl
  | cons x r ih =>
    rw [List.filter_cons, List.any_cons, ← ih]
    cases hk : k x <;> simp

theorem Sm.sent {s q : Lg} (h : Sm s q) (hq : q.Ok) (t : Int) (id : ByteArray) : (s.sent t id).1 = (q.rsent t id).1 ∧ Sm (s.sent t id).2 (q.rsent t id).2 := by
  obtain ⟨⟨e, m⟩, hm⟩ : ∃ r, q.rmove t = r := ⟨_, rfl⟩
  obtain ⟨m', hm', hs⟩ := move_pair h t hm
  have hok := rmove_ok hq t
  unfold Lg.sent Lg.rsent
  rw [hm, hm']
  rw [hm] at hok
  simp only []
  split
  · exact ⟨rfl, hs⟩
  · rename_i he
    have he : e = 0 := by simpa using he
    subst he
    split
    · exact ⟨rfl, hs⟩
    · have e1 : hasB m'.l id = rhas m id := by rw [hs.l]; exact has_filter _ _ _
      rw [e1]
      split
      · exact ⟨rfl, hs⟩
      · have e2 : m'.l.length = m.l.countP (kn m) := by rw [hs.l, List.countP_eq_length_filter]
        rw [e2]
        split
        · exact ⟨rfl, hs⟩
        · refine ⟨rfl, ⟨hs.W, hs.D, hs.H, hs.now, ?_⟩⟩
          have hn := (rmove_now hm).1
          have hW := hok.W
          have hD := hok.D
          have e3 : kn { m with l := m.l ++ [Lp.mk id t false] } = kn m := rfl
          show m'.l ++ [Lp.mk id t false] = (m.l ++ [Lp.mk id t false]).filter (kn { m with l := m.l ++ [Lp.mk id t false] })
          rw [e3, List.filter_append, ← hs.l]
          congr 1
          have : kn m (Lp.mk id t false) = true := by
            unfold kn oldAt
            simp only [hn]
            simp only [] at hW hD
            simp
            omega
          rw [List.filter_cons, this]
          rfl

theorem rback_filter (k : Lp → Bool) (hk : ∀ x y : Lp, x.at_ = y.at_ → k x = k y) (l : List Lp) (id : ByteArray) :
    back1 (l.filter k) id = ((rback1 k l id).1, (rback1 k l id).2.filter k) := by
  induction l with
  | nil => rfl
  | cons x r ih =>
    rw [List.filter_cons]
    unfold rback1
    cases hkx : k x with
    | false =>
      rw [if_neg (by simp), if_neg (by simp), ih]
      simp [List.filter_cons, hkx]
    | true =>
      rw [if_pos rfl]
      unfold back1
      by_cases hi : x.id = id
      · rw [if_pos hi, if_pos (show x.id = id ∧ true = true from ⟨hi, rfl⟩)]
        cases hc : x.came
        rotate_left
        · simp [List.filter_cons, hkx]
        · have : k (Lp.mk x.id x.at_ true) = true := by rw [hk (Lp.mk x.id x.at_ true) x rfl]; exact hkx
          simp [List.filter_cons, this]
      · rw [if_neg hi, if_neg (by simp [hi]), ih]
        simp [List.filter_cons, hkx]

theorem Sm.back {s q : Lg} (h : Sm s q) (t : Int) (id : ByteArray) : (s.back t id).1 = (q.rback t id).1 ∧ Sm (s.back t id).2 (q.rback t id).2 := by
  obtain ⟨⟨e, m⟩, hm⟩ : ∃ r, q.rmove t = r := ⟨_, rfl⟩
  obtain ⟨m', hm', hs⟩ := move_pair h t hm
  unfold Lg.back Lg.rback
  rw [hm, hm']
  simp only []
  split
  · exact ⟨rfl, hs⟩
  · have := rback_filter (kn m) (fun x y hxy => by unfold kn oldAt; rw [hxy]) m.l id
    rw [← hs.l] at this
    rw [this]
    exact ⟨rfl, ⟨hs.W, hs.D, hs.H, hs.now, rfl⟩⟩

theorem Sm.late {s q : Lg} (h : Sm s q) (t : Int) : (s.late t).1 = (q.rlate t).1 ∧ Sm (s.late t).2 (q.rlate t).2 := by
  obtain ⟨⟨e, m⟩, hm⟩ : ∃ r, q.rmove t = r := ⟨_, rfl⟩
  obtain ⟨m', hm', hs⟩ := move_pair h t hm
  unfold Lg.late Lg.rlate
  rw [hm, hm']
  simp only []
  refine ⟨?_, hs⟩
  rw [hs.l, List.countP_filter, hs.D, hs.now]
  congr 1
  split
  · congr 1
    refine List.countP_congr fun x _ => ?_
    unfold rlateP
    rw [Bool.and_comm]
  · rfl

theorem Sm.open {s q : Lg} (h : Sm s q) : s.l.countP openAt = q.l.countP (ropenP q) := by
  rw [h.l, List.countP_filter]
  refine List.countP_congr fun x _ => ?_
  unfold ropenP
  rw [Bool.and_comm]

theorem rback1_len (k : Lp → Bool) (l : List Lp) (id : ByteArray) : (rback1 k l id).2.length = l.length := by
  induction l with
  | nil => rfl
  | cons x r ih => unfold rback1; split <;> (try split) <;> simp [ih]

theorem rback1_at_ {k : Lp → Bool} {l : List Lp} {id : ByteArray} {P : Int → Prop} (h : ∀ x ∈ l, P x.at_) : ∀ x ∈ (rback1 k l id).2, P x.at_ := by
  induction l with
  | nil => intro x hx; simp [rback1] at hx
  | cons y r ih =>
    have hy := h y (List.mem_cons_self ..)
    have ih := ih fun z hz => h z (List.mem_cons_of_mem _ hz)
    have hr := fun z hz => h z (List.mem_cons_of_mem y hz)
    intro x hx
    unfold rback1 at hx
    split at hx
    · split at hx
      · rcases List.mem_cons.1 hx with rfl | hx
        · exact hy
        · exact hr _ hx
      · rcases List.mem_cons.1 hx with rfl | hx
        · exact hy
        · exact hr _ hx
    · rcases List.mem_cons.1 hx with rfl | hx
      · exact hy
      · exact ih _ hx

theorem rback1_no {k : Lp → Bool} {l : List Lp} {id : ByteArray} (h : ∀ x ∈ l, ¬ (x.id = id ∧ k x = true)) : rback1 k l id = (5, l) := by
  induction l with
  | nil => rfl
  | cons x r ih =>
    unfold rback1
    rw [if_neg (h x (List.mem_cons_self ..)), ih fun y hy => h y (List.mem_cons_of_mem _ hy)]

theorem rback1_at {k : Lp → Bool} {l : List Lp} {id : ByteArray} : ∀ {i : Nat} (hi : i < l.length), (l[i].id = id ∧ k l[i] = true) → (∀ j (hj : j < i), ¬ (l[j].id = id ∧ k l[j] = true)) →
    rback1 k l id = if l[i].came then (6, l) else (0, l.set i ⟨l[i].id, l[i].at_, true⟩) := by
  induction l with
  | nil => intro i hi; simp at hi
  | cons x r ih =>
    intro i hi h1 h2
    cases i with
    | zero =>
      unfold rback1
      simp only [List.getElem_cons_zero] at h1 ⊢
      rw [if_pos h1]
      rfl
    | succ i =>
      have h0 := h2 0 (by omega)
      simp only [List.getElem_cons_zero] at h0
      simp only [List.getElem_cons_succ] at h1 ⊢
      have := ih (by simpa using hi) h1 fun j hj => by
        have := h2 (j + 1) (by omega)
        simpa using this
      unfold rback1
      rw [if_neg h0, this]
      split <;> rfl

theorem rsent_ok {q : Lg} (hq : q.Ok) (hl : q.l.length < 4096) (t : Int) (id : ByteArray) : (q.rsent t id).2.Ok ∧ (q.rsent t id).2.l.length ≤ q.l.length + 1 := by
  have hm := rmove_ok hq t
  have hlen := rmove_len q t
  unfold Lg.rsent
  obtain ⟨⟨e, m⟩, he⟩ : ∃ r, q.rmove t = r := ⟨_, rfl⟩
  rw [he] at hm hlen ⊢
  simp only [] at hm hlen ⊢
  split
  · exact ⟨hm, by simp [hlen]⟩
  · rename_i h0
    have h0 : e = 0 := by simpa using h0
    subst h0
    split
    · exact ⟨hm, by simp [hlen]⟩
    · split
      · exact ⟨hm, by simp [hlen]⟩
      · split
        · exact ⟨hm, by simp [hlen]⟩
        · have hn := rmove_now he
          refine ⟨⟨hm.W, hm.D, hm.H, hm.now, fun x hx => ?_, by simp [hlen]; omega⟩, by simp [hlen]⟩
          rcases List.mem_append.1 hx with hx | hx
          · exact hm.at_ x hx
          · obtain rfl := List.mem_singleton.1 hx
            have := hq.now
            exact ⟨by show 0 ≤ t; omega, hn.2.2⟩

theorem rback_ok {q : Lg} (hq : q.Ok) (t : Int) (id : ByteArray) : (q.rback t id).2.Ok ∧ (q.rback t id).2.l.length = q.l.length := by
  have hm := rmove_ok hq t
  have hlen := rmove_len q t
  unfold Lg.rback
  obtain ⟨⟨e, m⟩, he⟩ : ∃ r, q.rmove t = r := ⟨_, rfl⟩
  rw [he] at hm hlen ⊢
  simp only [] at hm hlen ⊢
  split
  · exact ⟨hm, by simp [hlen]⟩
  · exact ⟨⟨hm.W, hm.D, hm.H, hm.now, rback1_at_ (P := fun a => 0 ≤ a ∧ a ≤ 1099511627776) hm.at_, by rw [rback1_len]; exact hm.len⟩, by rw [rback1_len, hlen]⟩

end Go.Proofs.Ytikjcobdddjlbaa
