/-
  The plain model of layer 23: a ledger is its numbers, its tick and the loops that are not forgotten, in the order in which they were sent. No program in sight.
-/
namespace Go.Proofs.Ytikjcobdddjlbaa

/-- A loop. -/
structure Lp where
  id : ByteArray
  at_ : Int
  came : Bool

/-- A ledger. -/
structure Lg where
  W : Int
  D : Int
  H : Int
  now : Int
  l : List Lp

/-- Is it forgotten at that tick? -/
def oldAt (W D now : Int) (x : Lp) : Bool := decide (x.at_ ≤ now - W - D)
def lateAt (D now : Int) (x : Lp) : Bool := !x.came && decide (x.at_ ≤ now - D)
def openAt (x : Lp) : Bool := !x.came

/-- What may be a ledger. -/
structure Lg.Ok (s : Lg) : Prop where
  W : 1 ≤ s.W ∧ s.W ≤ 1048576
  D : 1 ≤ s.D ∧ s.D ≤ 1048576
  H : 0 ≤ s.H ∧ s.H ≤ 4096
  now : 0 ≤ s.now ∧ s.now ≤ 1099511627776
  at_ : ∀ x ∈ s.l, 0 ≤ x.at_ ∧ x.at_ ≤ 1099511627776
  len : s.l.length ≤ 4096

def Lg.move (s : Lg) (t : Int) : Int × Lg :=
  if t < s.now then (140, s) else if 1099511627776 < t then (1, s)
  else (0, { s with now := t, l := s.l.filter fun x => !oldAt s.W s.D t x })

theorem Lg.move_ok {s : Lg} (h : s.Ok) (t : Int) : (s.move t).2.Ok := by
  unfold Lg.move
  split
  · exact h
  · split
    · exact h
    · exact ⟨h.W, h.D, h.H, ⟨by have := h.now; show 0 ≤ t; omega, by show t ≤ _; omega⟩, fun x hx => h.at_ x (List.mem_filter.1 hx).1, Nat.le_trans (List.length_filter_le _ _) h.len⟩

end Go.Proofs.Ytikjcobdddjlbaa
