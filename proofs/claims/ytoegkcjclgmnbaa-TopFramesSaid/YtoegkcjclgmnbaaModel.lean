/-
  The plain model of layer 10: a reader is the bytes that were not told, and whether it is broken. No program in sight.
-/
namespace Go.Proofs.Ytoegkcjclgmnbaa

structure St where
  left : List UInt8
  broken : Bool
  deriving DecidableEq

/-- The number that four bytes tell. -/
def num4 (a b c d : UInt8) : Nat := a.toNat * 16777216 + b.toNat * 65536 + c.toNat * 256 + d.toNat

/-- How long the next frame's text is. -/
def long (l : List UInt8) : Option Nat :=
  match l with
  | a :: b :: c :: d :: _ => some (num4 a b c d)
  | _ => none

def look (s : St) : St :=
  match long s.left with
  | some n => if 4096 < n then ⟨[], true⟩ else s
  | none => s

def take (s : St) (c : List UInt8) : Int × St :=
  if s.broken then (100, s)
  else if 1048576 - (s.left.length : Int) < c.length then (2, s)
  else (0, look ⟨s.left ++ c, false⟩)

def next (s : St) : (List UInt8 × Bool) × St :=
  match long s.left with
  | none => (([], false), s)
  | some n => if (s.left.length : Int) - 4 < n then (([], false), s) else (((s.left.drop 4).take n, true), look ⟨s.left.drop (4 + n), s.broken⟩)

/-- All frames that are there, at most so many. -/
def drain : Nat → St → List (List UInt8) × St
  | 0, s => ([], s)
  | n + 1, s => match next s with
    | ((_, false), s') => ([], s')
    | ((t, true), s') => (t :: (drain n s').1, (drain n s').2)

theorem drain_no {n : Nat} {s s' : St} {t : List UInt8} (h : next s = ((t, false), s')) : drain (n + 1) s = ([], s') := by
  simp [drain, h]

theorem drain_yes {n : Nat} {s s' : St} {t : List UInt8} (h : next s = ((t, true), s')) : drain (n + 1) s = (t :: (drain n s').1, (drain n s').2) := by
  simp [drain, h]

/-- One frame. -/
def one (s : List UInt8) : List UInt8 := [0, 0, UInt8.ofNat (s.length / 256), UInt8.ofNat s.length] ++ s

/-- The frames of texts. -/
def frames (l : List (List UInt8)) : List UInt8 := l.flatMap one

/-- A text's bytes. -/
def tx (s : ByteArray) : List UInt8 := s.data.toList

theorem tx_len (s : ByteArray) : (tx s).length = s.size := Array.length_toList

/-- The frames of texts; what Of tells. -/
def fr (l : List ByteArray) : List UInt8 := frames (l.map tx)
def ofS (l : List ByteArray) : List UInt8 × Int := if l.all (fun s => decide (s.size ≤ 4096)) then (fr l, 0) else ([], 2)

theorem fr_snoc (l : List ByteArray) (s : ByteArray) : fr (l ++ [s]) = fr l ++ one (tx s) := by simp [fr, frames]

theorem one_len (l : List UInt8) : (one l).length = l.length + 4 := by simp [one]

/-- How many bytes frames take. -/
def frLen (l : List ByteArray) : Nat := (l.map fun s => s.size + 4).sum

theorem fr_len (l : List ByteArray) : (fr l).length = frLen l := by
  induction l with
  | nil => rfl
  | cons s l ih =>
    have : fr (s :: l) = one (tx s) ++ fr l := by simp [fr, frames]
    rw [this, List.length_append, one_len, ih, tx_len]
    simp [frLen]

theorem frLen_take (l : List ByteArray) (k : Nat) (hk : k < l.length) : frLen (l.take k) + (l[k].size + 4) ≤ frLen l := by
  have h : l = l.take k ++ l[k] :: l.drop (k + 1) := by
    rw [List.getElem_cons_drop, List.take_append_drop]
  have e : frLen l = frLen (l.take k) + ((l[k].size + 4) + frLen (l.drop (k + 1))) := by
    have e1 : ∀ a b : List ByteArray, frLen (a ++ b) = frLen a + frLen b := fun a b => by simp [frLen]
    have e2 : ∀ (x : ByteArray) (b : List ByteArray), frLen (x :: b) = (x.size + 4) + frLen b := fun x b => by simp [frLen]
    rw [← e2, ← e1, ← h]
  omega

theorem num4_lt (a b c d : UInt8) : num4 a b c d < 4294967296 := by
  have := a.toNat_lt; have := b.toNat_lt; have := c.toNat_lt; have := d.toNat_lt
  unfold num4; omega

theorem long_bound {l : List UInt8} {n : Nat} (h : long l = some n) : n < 4294967296 := by
  unfold long at h
  split at h
  · cases h; exact num4_lt _ _ _ _
  · cases h

theorem long_none {l : List UInt8} (h : l.length < 4) : long l = none := by
  match l, h with
  | [], _ => rfl
  | [_], _ => rfl
  | [_, _], _ => rfl
  | [_, _, _], _ => rfl
  | _ :: _ :: _ :: _ :: _, h => simp at h; omega

theorem four {l : List UInt8} (h : 4 ≤ l.length) : ∃ a b c d r, l = a :: b :: c :: d :: r := by
  match l, h with
  | a :: b :: c :: d :: r, _ => exact ⟨a, b, c, d, r, rfl⟩
  | [], h => simp at h
  | [_], h => simp at h
  | [_, _], h => simp at h
  | [_, _, _], h => simp at h

theorem look_len (s : St) : (look s).left.length ≤ s.left.length := by
  unfold look; split
  · split <;> simp
  · exact Nat.le_refl _

end Go.Proofs.Ytoegkcjclgmnbaa
