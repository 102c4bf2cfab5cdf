/-
  Small words on worlds that all the walks of this seat use: which blocks a call may have turned ('Touch'), a block known whole, a slice of bytes that reads as a list.
-/
import Derived.WalkKit
import Derived.WalkLawsBesides
import Derived.Deep.QuietTactic
import Derived.BigQuiet
import Derived.KernelRfl
import Derived.Lib.Hide
import Derived.Laws.BytesArg
import Derived.Lib.AppendStr
import Derived.Laws.AppendOwnNone
import Derived.DataReads
namespace Go.Proofs.Ytfnmnmjpcamkiaa
open Go.RowKit

/-- Of the blocks of w those that F names may have turned; new blocks may have come; the streams are as they were. -/
structure Touch (F : Nat → Prop) (w w' : World) : Prop where
  os : w'.os = w.os
  tape : w'.tape = w.tape
  output : w'.output = w.output
  size : w.heap.size ≤ w'.heap.size
  block : ∀ k, k < w.heap.size → ¬ F k → w'.heap[k]? = w.heap[k]?

/-- Nothing of what was there. -/
def Nothing : Nat → Prop := fun _ => False

theorem Touch.refl (F : Nat → Prop) (w : World) : Touch F w w := ⟨rfl, rfl, rfl, Nat.le_refl _, fun _ _ _ => rfl⟩

theorem Touch.trans {F G : Nat → Prop} {a b c : World} (h : Touch F a b) (k : Touch G b c) (hg : ∀ i, i < a.heap.size → G i → F i) : Touch F a c :=
  ⟨k.os.trans h.os, k.tape.trans h.tape, k.output.trans h.output, Nat.le_trans h.size k.size,
    fun i hi hf => (k.block i (Nat.lt_of_lt_of_le hi h.size) (fun q => hf (hg i hi q))).trans (h.block i hi hf)⟩

theorem Touch.trans' {F : Nat → Prop} {a b c : World} (h : Touch F a b) (k : Touch F b c) : Touch F a c := h.trans k fun _ _ h => h

theorem Touch.none {F : Nat → Prop} {a b c : World} (h : Touch F a b) (k : Touch Nothing b c) : Touch F a c := h.trans k fun _ _ h => h.elim

theorem Touch.mono {F G : Nat → Prop} {w w' : World} (h : Touch F w w') (hg : ∀ k, k < w.heap.size → F k → G k) : Touch G w w' :=
  ⟨h.os, h.tape, h.output, h.size, fun k hk hf => h.block k hk fun q => hf (hg k hk q)⟩

theorem Touch.alloc {F : Nat → Prop} {a w : World} (h : Touch F a w) (o : Obj) : Touch F a (w.alloc o) :=
  h.none ⟨rfl, rfl, rfl, by simp, fun k hk _ => Below.heap_alloc _ _ _ hk⟩

theorem Touch.drew {F : Nat → Prop} {a w : World} (h : Touch F a w) : Touch F a w.drew := h.none ⟨rfl, rfl, rfl, Nat.le_refl _, fun _ _ _ => rfl⟩

theorem Touch.drewN {F : Nat → Prop} {a w : World} (h : Touch F a w) (n : Nat) : Touch F a (w.drewN n) := h.none ⟨rfl, rfl, rfl, Nat.le_refl _, fun _ _ _ => rfl⟩

theorem Touch.setCell {F : Nat → Prop} {a w : World} (h : Touch F a w) {p : Addr} (hp : p.block < a.heap.size → F p.block) (u : Value) : Touch F a (w.setCell p u) :=
  h.trans (G := fun k => k = p.block) ⟨rfl, rfl, rfl, by simp [World.setCell], fun k _ hk => Below.heap_setCell _ _ _ _ hk⟩ fun i hi q => by subst q; exact hp hi

theorem Touch.grown {F : Nat → Prop} {a w w' : World} {row : Option Nat} (h : Touch F a w) (hg : w.grownBy w' row) (hr : ∀ k, k < a.heap.size → row = some k → F k) : Touch F a w' :=
  h.trans (G := fun k => row = some k) ⟨hg.os, hg.tape, hg.output, hg.size, fun k hk hn => hg.block k hk fun e => hn e.symm⟩ hr

theorem Touch.below {F : Nat → Prop} {w w' : World} (h : Touch F w w') {B : Nat} (hB : B ≤ w.heap.size) (hF : ∀ k, k < B → ¬ F k) : Below B w w' :=
  ⟨h.os, h.tape, h.output, h.size, fun k hk => h.block k (Nat.lt_of_lt_of_le hk hB) (hF k hk)⟩

theorem Touch.ofBelow {B : Nat} {w w' : World} (h : Below B w w') : Touch (fun k => B ≤ k) w w' :=
  ⟨h.os, h.tape, h.output, h.size, fun k _ hk => h.block k (by omega)⟩

theorem Touch.ofBelow0 {w w' : World} (h : Below w.heap.size w w') : Touch Nothing w w' :=
  ⟨h.os, h.tape, h.output, h.size, fun k hk _ => h.block k hk⟩

theorem Touch.toBelow0 {F : Nat → Prop} {w w' : World} (h : Touch F w w') (hF : ∀ k, k < w.heap.size → ¬ F k) : Below w.heap.size w w' :=
  h.below (Nat.le_refl _) hF

theorem lt_of_heap {w : World} {g : Nat} {o : Obj} (h : w.heap[g]? = some o) : g < w.heap.size := (Array.getElem?_eq_some_iff.1 h).1

theorem Touch.heap {F : Nat → Prop} {w w' : World} (h : Touch F w w') {g : Nat} {o : Obj} (hg : w.heap[g]? = some o) (hf : ¬ F g) : w'.heap[g]? = some o :=
  (h.block g (lt_of_heap hg) hf).trans hg

theorem Touch.cell {F : Nat → Prop} {w w' : World} (h : Touch F w w') {p : Addr} {v : Value} (hc : w.cell? p = some v) (hf : ¬ F p.block) : w'.cell? p = some v :=
  (World.cell?_of_block (h.block p.block (World.block_lt_of_cell? w p hc) hf)).trans hc

theorem Touch.owns {F : Nat → Prop} {w w' : World} (h : Touch F w w') {base : Nat} {e : TypeId} {size : Nat} {v : Value} {n : Nat} {xs : List Value}
    (ho : w.ownsRow base e size v n xs) (hf : ∀ k, v.ownBlock = some k → ¬ F k) : w'.ownsRow base e size v n xs := by
  refine ⟨ho.1, ?_⟩
  rcases ho.2 with hn | ⟨g, cap, cur, rfl, hb, hg, r⟩
  · exact .inl hn
  · exact .inr ⟨g, cap, cur, rfl, hb, h.heap hg (hf g rfl), r⟩

/-- A block known whole: its cells. -/
theorem cell_blk {w : World} {g : Nat} {cs : Array Value} {e : TypeId} {fr : Nat × Nat} (h : w.heap[g]? = some (.cells cs e fr)) (i : Nat) : w.cell? ⟨g, i, none⟩ = cs[i]? := by
  simp [World.cell?, h]
theorem frz_blk {w : World} {g : Nat} {cs : Array Value} {e : TypeId} (h : w.heap[g]? = some (.cells cs e (0, 0))) (i : Nat) : w.frozen? ⟨g, i, none⟩ = false := by
  simp [World.frozen?, h]
theorem shape_blk {w : World} {g : Nat} {cs : Array Value} {e : TypeId} {fr : Nat × Nat} (h : w.heap[g]? = some (.cells cs e fr)) : w.shape? g = some (e, cs.size) := by
  simp [World.shape?, h]
theorem heap_setCell_same {w : World} {g : Nat} {cs : Array Value} {e : TypeId} {fr : Nat × Nat} (h : w.heap[g]? = some (.cells cs e fr)) (i : Nat) (v : Value) :
    (w.setCell ⟨g, i, none⟩ v).heap[g]? = some (.cells (cs.setIfInBounds i v) e fr) := by
  simp [World.setCell, Array.getElem?_modify, h]
theorem heap_setCell_ne {w : World} {g k : Nat} (hk : k ≠ g) (i : Nat) (v : Value) : (w.setCell ⟨g, i, none⟩ v).heap[k]? = w.heap[k]? := Below.heap_setCell _ _ _ _ hk

/-- A byte as a cell holds it. -/
def byteV (b : UInt8) : Value := .int .u8 (b.toNat : Int)

/-- The slice value (a, _, c) reads as these bytes. -/
def SlB (w : World) (a : Option Addr) (c : Nat) (bs : List UInt8) : Prop :=
  bs.length ≤ c ∧ ∀ i (h : i < bs.length), ∃ g o, a = some ⟨g, o, Option.none⟩ ∧ w.cell? ⟨g, o + i, Option.none⟩ = some (byteV bs[i])

theorem SlB.keep {F : Nat → Prop} {w w' : World} {a : Option Addr} {c : Nat} {bs : List UInt8} (h : SlB w a c bs) (ht : Touch F w w') (hf : ∀ p, a = some p → ¬ F p.block) : SlB w' a c bs :=
  ⟨h.1, fun i hi => by obtain ⟨g, o, ha, hc⟩ := h.2 i hi; exact ⟨g, o, ha, ht.cell hc (show ¬ F g from hf ⟨g, o, Option.none⟩ ha)⟩⟩

theorem strOf_bytes (bs : List UInt8) : strOfNums (bs.map fun b => (b.toNat : Int)) = ⟨bs.toArray⟩ := by
  simp [strOfNums, List.map_map, Function.comp_def]

/-- string(b). -/
theorem SlB.conv {P : Program} {w : World} {a : Option Addr} {c : Nat} {bs : List UInt8} (h : SlB w a c bs) {n : Nat} (hn : bs.length = n) (src e dst : TypeId) (hs : P.underlying src = some (.slice e))
    (he : P.underlying e = some (.int .u8)) (hd : P.underlying dst = some .string) (c' : Nat) : (convert src dst (.slice a n c')).run P w = .ok (.string ⟨bs.toArray⟩) w := by
  cases a with
  | none =>
    have : bs = [] := by
      cases bs with
      | nil => rfl
      | cons b r => obtain ⟨g, o, ha, _⟩ := h.2 0 (by simp); cases ha
    subst this
    exact run_convert_bytes_nil w src e hs he n c' dst hd
  | some p =>
    by_cases h0 : n = 0
    · have : bs = [] := List.eq_nil_of_length_eq_zero (by omega)
      subst this
      rw [run_convert_bytes_string w src dst e (some p) n c' hs he hd, run_bytesToString w p n c' [] (by simp [loadCells, loadCellsFrom, h0])]
      rfl
    · obtain ⟨g, o, ha, _⟩ := h.2 0 (by omega)
      cases ha
      rw [run_convert_bytes_arg w src e hs he g o n c' (bs.map fun b => (b.toNat : Int)) (by simpa using hn) ?_ dst hd, strOf_bytes]
      intro i hi
      obtain ⟨g', o', ha, hc⟩ := h.2 i (by omega)
      cases ha
      rw [hc]
      simp [byteV, List.getD_eq_getElem?_getD, List.getElem?_map, List.getElem?_eq_getElem (show i < bs.length by omega)]

/-- What b[l:h] reads as. -/
theorem SlB.mid {w : World} {g o c : Nat} {bs : List UInt8} (h : SlB w (some ⟨g, o, Option.none⟩) c bs) (l n : Nat) (hln : l + n ≤ bs.length) :
    SlB w (some ⟨g, o + l, Option.none⟩) (c - l) ((bs.drop l).take n) := by
  have h1 := h.1
  refine ⟨by simp; omega, fun i hi => ⟨g, o + l, rfl, ?_⟩⟩
  have hi' : i < n ∧ l + i < bs.length := by simp at hi; omega
  obtain ⟨g', o', ha, hc⟩ := h.2 (l + i) hi'.2
  cases ha
  rw [Nat.add_assoc, hc]
  simp

/-- A block of bytes that was just made. -/
theorem SlB.made {w w' : World} {cs : Array Value} {e : TypeId} {l : List UInt8} {n : Nat} (h : cs.toList = l.map byteV) (hn : l.length ≤ n) (hw : Touch Nothing (w.alloc (.cells cs e)) w') : SlB w' (some ⟨w.heap.size, 0, Option.none⟩) n l := by
  refine ⟨hn, fun i hi => ⟨w.heap.size, 0, rfl, ?_⟩⟩
  refine hw.cell ?_ (fun q => q)
  rw [cell_blk (heap_alloc_new w _), Nat.zero_add, ← Array.getElem?_toList, h, List.getElem?_map, List.getElem?_eq_getElem hi]
  rfl

theorem SlB.nil (w : World) (a : Option Addr) (c : Nat) : SlB w a c [] := ⟨Nat.zero_le _, fun i hi => by simp at hi⟩

/-- What append asks of a slice type: its element's row of the table. -/
structure Elt (P : Program) (t e : TypeId) (size bytes : Nat) : Prop where
  ht : P.underlying t = some (.slice e)
  row : ∃ i z, P.info? e = some i ∧ i.zero = some z ∧ i.size = size ∧ i.bytes = bytes ∧ z.cells.size = size
  pos : 0 < size

theorem Elt.mk' {P : Program} {t e : TypeId} {z : Value} {size bytes : Nat} (ht : P.underlying t = some (.slice e)) (h : (P.info? e).map (fun i => (i.zero, i.size, i.bytes)) = some (some z, size, bytes))
    (hz : z.cells.size = size) (hp : 0 < size) : Elt P t e size bytes := by
  obtain ⟨i, h1, h2, h3, h4⟩ := info_parts h
  exact ⟨ht, ⟨i, z, h1, h2, h3, h4, hz⟩, hp⟩

section
variable {P : Program} {w : World} {t e : TypeId} {size bytes : Nat}

/-- append of a slice that is read; the new row is the old one or a new block. -/
theorem run_app (E : Elt P t e size bytes) (ty : TypeId) {v : Value} {n : Nat} {xs : List Value} (hown : w.ownsRow 0 e size v n xs)
    (ad : Addr) (m c : Nat) (news : List Value) (hl : news.length = m * size) (hnews : ∀ j u, news[j]? = some u → w.cell? (ad.add j) = some u) (h1 : ∀ u ∈ news, u.oneCell' = true)
    (hm : n + m ≤ maxLen) (hb : (n + m) * bytes ≤ 140737488355328) :
    ∃ v' w', (Builtin.append_ #[t, t] ty #[v, .slice (some ad) m c]).run P w = .ok v' w' ∧ w'.ownsRow 0 e size v' (n + m) (xs ++ news) ∧ w.grownBy w' v.ownBlock ∧
      (v'.ownBlock = v.ownBlock ∨ v'.ownBlock = some w.heap.size) := by
  obtain ⟨i, z, hi, hz, hs, hy, hzs⟩ := E.row
  obtain ⟨v', w', hr, ho, hg, hn⟩ := run_append_own (P := P) w 0 t ty e i z size bytes E.ht hi hz hs hy hzs E.pos v n xs hown ad m c news hl hnews h1 hm hb (Nat.zero_le _)
  refine ⟨v', w', hr, ho, hg, ?_⟩
  subst hs
  subst hy
  have hm' : n + m ≤ 9223372036854775807 := by simp only [maxLen] at hm; omega
  rcases hown.2 with ⟨rfl, rfl⟩ | ⟨g, cap, cur, rfl, _, hgg, hnc, _, hcs, _⟩
  · by_cases h0 : m = 0
    · obtain rfl := hn.2 ⟨rfl, h0⟩
      exact .inl rfl
    · have := run_append_nil (P := P) w t ty e i z E.ht hi hz ad m c news hl hnews (by omega) (by omega) (by simp only [Nat.zero_add] at hb; omega)
      rw [this] at hr
      cases hr
      exact .inr rfl
  · by_cases hroom : n + m ≤ cap
    · have := run_append_room (P := P) w t ty e i E.ht hi g n cap cur hgg ad m c news hl hnews h1 hroom (by rw [hl, hcs, ← Nat.add_mul]; exact Nat.mul_le_mul_right _ hroom)
      rw [this] at hr
      cases hr
      exact .inl rfl
    · have := run_append_grow (P := P) w t ty e i z E.ht hi hz ⟨g, 0, Option.none⟩ n cap xs hown.1 (hown.cells (g := g) rfl) ad m c news hl hnews (by omega) (by omega) (growslice_fits (by omega) hb)
      rw [this] at hr
      cases hr
      exact .inr rfl

/-- A value that append's second argument may be: it reads as m elements with these cells. -/
def Src (w : World) (x : Value) (m size : Nat) (news : List Value) : Prop :=
  (x = .slice Option.none 0 0 ∧ m = 0 ∧ news = []) ∨
  ∃ ad c, x = .slice (some ad) m c ∧ news.length = m * size ∧ (∀ j u, news[j]? = some u → w.cell? (ad.add j) = some u) ∧ ∀ u ∈ news, u.oneCell' = true

theorem run_app_any (E : Elt P t e size bytes) (ty : TypeId) {v : Value} {n : Nat} {xs : List Value} (hown : w.ownsRow 0 e size v n xs)
    {x : Value} {m : Nat} {news : List Value} (hx : Src w x m size news) {k : Nat} {zs : List Value} (hk : n + m = k) (hzs : xs ++ news = zs) (hm : k ≤ maxLen) (hb : k * bytes ≤ 140737488355328) :
    ∃ v' w', (Builtin.append_ #[t, t] ty #[v, x]).run P w = .ok v' w' ∧ w'.ownsRow 0 e size v' k zs ∧ w.grownBy w' v.ownBlock ∧
      (v'.ownBlock = v.ownBlock ∨ v'.ownBlock = some w.heap.size) := by
  subst hk hzs
  rcases hx with ⟨rfl, rfl, rfl⟩ | ⟨ad, c, rfl, hl, hnews, h1⟩
  · obtain ⟨i, z, hi, hz, hs, hy, hzs⟩ := E.row
    have := run_append_owned_none (P := P) (w := w) 0 t ty e i size E.ht hi v n xs hown
    exact ⟨v, w, this, by simpa using hown, ⟨rfl, rfl, rfl, Nat.le_refl _, fun _ _ _ => rfl⟩, .inl rfl⟩
  · exact run_app E ty hown ad m c news hl hnews h1 hm hb

theorem wp_app {o : Oper} {a : Act} {K : Act → World → Prop} {Q : Exit → Act → World → Prop} (E : Elt P t e size bytes) (s x : Operand)
    (ho : o.op = .call { callee := .builtin .append, args := #[s, x], argTypes := #[t, t] }) {v : Value} {n : Nat} {xs : List Value} (hs : a.eval s = v) (hown : w.ownsRow 0 e size v n xs)
    {y : Value} {m : Nat} {news : List Value} (hx : a.eval x = y) (hy : Src w y m size news)
    {k : Nat} {zs : List Value} (hk : n + m = k) (hzs : xs ++ news = zs) (hm : k ≤ maxLen) (hb : k * bytes ≤ 140737488355328)
    (h : ∀ v' w', w'.ownsRow 0 e size v' k zs → w.grownBy w' v.ownBlock → (v'.ownBlock = v.ownBlock ∨ v'.ownBlock = some w.heap.size) → K (a.put o.dst v') w') : o.wp P a w K Q := by
  obtain ⟨v', w', hr, h2, h3, h4⟩ := run_app_any (P := P) (w := w) E o.type hown hy hk hzs hm hb
  unfold Oper.wp execOp
  simp only [ho, resolve, invoke, builtin, Sem.run_bind, Sem.run_pure, Result.andThen_ok, List.map_toArray, List.map_cons, List.map_nil, hs, hx, hr]
  exact h v' w' h2 h3 h4

/-- The operation, for the walk. -/
theorem wpList_app {ops : Array Oper} {rest : List Oper} {o : Oper} {a : Act} {Q : Exit → Act → World → Prop} (E : Elt P t e size bytes) (hgd : o.guard = Option.none) (s x : Operand)
    (ho : o.op = .call { callee := .builtin .append, args := #[s, x], argTypes := #[t, t] }) {v : Value} {n : Nat} {xs : List Value} (hs : a.eval s = v) (hown : w.ownsRow 0 e size v n xs)
    {y : Value} {m : Nat} {news : List Value} (hx : a.eval x = y) (hy : Src w y m size news)
    {k : Nat} {zs : List Value} (hk : n + m = k) (hzs : xs ++ news = zs) (hm : k ≤ maxLen) (hb : k * bytes ≤ 140737488355328)
    (h : ∀ v' w', w'.ownsRow 0 e size v' k zs → w.grownBy w' v.ownBlock → (v'.ownBlock = v.ownBlock ∨ v'.ownBlock = some w.heap.size) → wpList P ops Q rest (a.put o.dst v') w') :
    wpList P ops Q (o :: rest) a w :=
  wpList_plain hgd fun _ hK => wp_app E s x ho hs hown hx hy hk hzs hm hb fun v' w' h2 h3 h4 => hK _ _ (h v' w' h2 h3 h4)

/-- The operation, at a step of a region that draws its order. -/
theorem step_app {ops : Array Oper} {o : Oper} {a : Act} {K : Act → World → Prop} {Q : Exit → Act → World → Prop} {X : Prop} (E : Elt P t e size bytes) (hgd : o.guard = Option.none) (s x : Operand)
    (ho : o.op = .call { callee := .builtin .append, args := #[s, x], argTypes := #[t, t] }) {v : Value} {n : Nat} {xs : List Value} (hs : a.eval s = v) (hown : w.ownsRow 0 e size v n xs)
    {y : Value} {m : Nat} {news : List Value} (hx : a.eval x = y) (hy : Src w y m size news)
    {k : Nat} {zs : List Value} (hk : n + m = k) (hzs : xs ++ news = zs) (hm : k ≤ maxLen) (hb : k * bytes ≤ 140737488355328)
    (h : ∀ v' w', w'.ownsRow 0 e size v' k zs → w.grownBy w' v.ownBlock → (v'.ownBlock = v.ownBlock ∨ v'.ownBlock = some w.heap.size) → K (a.put o.dst v') w') :
    if Region.wanted o (yielded ops a.tmps) = true then Oper.wp P o a w K Q else X := by
  rw [if_pos (by simp [Region.wanted, hgd])]
  exact wp_app E s x ho hs hown hx hy hk hzs hm hb h

/-- append of a string onto bytes. -/
theorem run_app_str {u : TypeId} (E : Elt P t e 1 1) (hz8 : ∃ i, P.info? e = some i ∧ i.zero = some (.int .u8 0)) (hu : P.underlying u = some .string) (ty : TypeId) {v : Value} {n : Nat} {xs : List Value} (hown : w.ownsRow 0 e 1 v n xs) (s : ByteArray)
    (hb : n + s.size ≤ 140737488355328) :
    ∃ v' w', (Builtin.append_ #[t, u] ty #[v, .string s]).run P w = .ok v' w' ∧ w'.ownsRow 0 e 1 v' (n + s.size) (xs ++ Lib.strCells s) ∧ w.grownBy w' v.ownBlock ∧
      (v'.ownBlock = v.ownBlock ∨ v'.ownBlock = some w.heap.size) := by
  obtain ⟨i, z, hi, hz, hs, hy, hzs⟩ := E.row
  obtain ⟨i', hi', hz'⟩ := hz8
  rw [hi] at hi'
  cases hi'
  have hm : n + s.size ≤ maxLen := by simp only [maxLen]; omega
  obtain ⟨v', w', hr, ho, hg, hn⟩ := Lib.run_append_own_string (P := P) w 0 t u ty e i E.ht hu hi hz' hs hy v n xs hown s hm hb (Nat.zero_le _)
  refine ⟨v', w', hr, ho, hg, ?_⟩
  rcases hown.2 with ⟨rfl, rfl⟩ | ⟨g, cap, cur, rfl, _, hgg, hnc, _, hcs, _⟩
  · by_cases h0 : s.size = 0
    · obtain rfl := hn.2 ⟨rfl, h0⟩
      exact .inl rfl
    · have := run_append_nil_string (P := P) w t u ty e i (.int .u8 0) E.ht hu hi hz' s (by omega) (by omega) (by rw [hy]; omega)
      rw [this] at hr
      cases hr
      exact .inr rfl
  · by_cases hroom : n + s.size ≤ cap
    · have := Lib.run_append_room_string (P := P) w t u ty e i E.ht hu hi hs g n cap cur hgg s hroom (by rw [hcs]; omega)
      rw [this] at hr
      cases hr
      exact .inl rfl
    · have := Lib.run_append_grow_string (P := P) w t u ty e i (.int .u8 0) E.ht hu hi hz' ⟨g, 0, Option.none⟩ n cap xs (by rw [hs]; exact hown.1) (hown.cells (g := g) rfl) s (by omega) (by omega) (by rw [hy]; exact growslice_fits (by omega) (by omega))
      rw [this] at hr
      cases hr
      exact .inr rfl

theorem wpList_app_str {u : TypeId} {ops : Array Oper} {rest : List Oper} {o : Oper} {a : Act} {Q : Exit → Act → World → Prop} (E : Elt P t e 1 1) (hz8 : ∃ i, P.info? e = some i ∧ i.zero = some (.int .u8 0)) (hu : P.underlying u = some .string) (hgd : o.guard = Option.none) (sl x : Operand)
    (ho : o.op = .call { callee := .builtin .append, args := #[sl, x], argTypes := #[t, u] }) {v : Value} {n : Nat} {xs : List Value} (hs : a.eval sl = v) (hown : w.ownsRow 0 e 1 v n xs)
    {s : ByteArray} (hx : a.eval x = .string s) {k : Nat} {zs : List Value} (hk : n + s.size = k) (hzs : xs ++ Lib.strCells s = zs) (hb : k ≤ 140737488355328)
    (h : ∀ v' w', w'.ownsRow 0 e 1 v' k zs → w.grownBy w' v.ownBlock → (v'.ownBlock = v.ownBlock ∨ v'.ownBlock = some w.heap.size) → wpList P ops Q rest (a.put o.dst v') w') :
    wpList P ops Q (o :: rest) a w := by
  subst hk hzs
  refine wpList_plain hgd fun K hK => ?_
  obtain ⟨v', w', hr, h2, h3, h4⟩ := run_app_str (P := P) (w := w) E hz8 hu o.type hown s hb
  unfold Oper.wp execOp
  simp only [ho, resolve, invoke, builtin, Sem.run_bind, Sem.run_pure, Result.andThen_ok, List.map_toArray, List.map_cons, List.map_nil, hs, hx, hr]
  exact hK _ _ (h v' w' h2 h3 h4)
end

theorem strCells_bytes (s : ByteArray) : Lib.strCells s = s.data.toList.map byteV := by
  simp [Lib.strCells, byteV]

theorem byteV_one (l : List UInt8) : ∀ u ∈ l.map byteV, u.oneCell' = true := by
  intro u hu
  obtain ⟨b, _, rfl⟩ := List.mem_map.1 hu
  rfl

theorem SlB.news {w : World} {p : Addr} {c : Nat} {bs : List UInt8} (h : SlB w (some p) c bs) : ∀ j u, (bs.map byteV)[j]? = some u → w.cell? (p.add j) = some u := by
  intro j u hj
  rw [List.getElem?_map] at hj
  have hlt : j < bs.length := by
    rcases Nat.lt_or_ge j bs.length with h | h
    · exact h
    · rw [List.getElem?_eq_none h] at hj; simp at hj
  rw [List.getElem?_eq_getElem hlt] at hj
  cases hj
  obtain ⟨g', o', ha, hc⟩ := h.2 j hlt
  cases ha
  rw [Addr.add_lit]
  exact hc

theorem SlB.src {w : World} {p : Addr} {c : Nat} {bs : List UInt8} (h : SlB w (some p) c bs) {n : Nat} (hn : bs.length = n) (c' : Nat) : Src w (.slice (some p) n c') n 1 (bs.map byteV) :=
  .inr ⟨p, c', rfl, by simp [hn], h.news, byteV_one _⟩

theorem Src.nil (w : World) (size : Nat) : Src w (.slice Option.none 0 0) 0 size [] := .inl ⟨rfl, rfl, rfl⟩

theorem ownsRow_src {w : World} {base : Nat} {e : TypeId} {size : Nat} {v : Value} {n : Nat} {xs : List Value} (h : w.ownsRow base e size v n xs) (h1 : ∀ u ∈ xs, u.oneCell' = true) : Src w v n size xs := by
  rcases h.2 with ⟨rfl, rfl⟩ | ⟨g, cap, cur, rfl, _⟩
  · exact .inl ⟨rfl, rfl, List.eq_nil_of_length_eq_zero (by simpa using h.1)⟩
  · exact .inr ⟨_, _, rfl, h.1, h.cells (g := g) rfl, h1⟩

theorem Src.keep {F : Nat → Prop} {w w' : World} {x : Value} {m size : Nat} {news : List Value} (h : Src w x m size news) (ht : Touch F w w') (hf : ∀ a n c, x = .slice (some a) n c → ¬ F a.block) : Src w' x m size news := by
  rcases h with h | ⟨ad, c, rfl, hl, hn, h1⟩
  · exact .inl h
  · exact .inr ⟨ad, c, rfl, hl, fun j u hu => ht.cell (hn j u hu) (by have := hf ad m c rfl; unfold Addr.add; split <;> exact this), h1⟩

/-- A new empty row. -/
theorem owns_empty (w : World) (e : TypeId) (size : Nat) : (w.alloc (.cells #[] e)).ownsRow 0 e size (.slice (some ⟨w.heap.size, 0, Option.none⟩) 0 0) 0 [] := by
  have := World.ownsRow_made (base := 0) (e := e) (size := size) w #[] 0 (Nat.zero_le _) (Nat.zero_le _) (by simp)
  exact this

/-- The slice value (a, _, c) reads as these strings. -/
def StrSl (w : World) (a : Option Addr) (c : Nat) (ts : List ByteArray) : Prop :=
  ts.length ≤ c ∧ ∀ i (h : i < ts.length), ∃ g o, a = some ⟨g, o, Option.none⟩ ∧ w.cell? ⟨g, o + i, Option.none⟩ = some (.string ts[i])

theorem StrSl.keep {F : Nat → Prop} {w w' : World} {a : Option Addr} {c : Nat} {ts : List ByteArray} (h : StrSl w a c ts) (ht : Touch F w w') (hf : ∀ p, a = some p → ¬ F p.block) : StrSl w' a c ts :=
  ⟨h.1, fun i hi => by obtain ⟨g, o, ha, hc⟩ := h.2 i hi; exact ⟨g, o, ha, ht.cell hc (show ¬ F g from hf ⟨g, o, Option.none⟩ ha)⟩⟩

theorem owns_base {w : World} {base : Nat} {e : TypeId} {size : Nat} {v : Value} {n : Nat} {xs : List Value} (h : w.ownsRow base e size v n xs) {B : Nat} (hB : ∀ k, v.ownBlock = some k → B ≤ k) : w.ownsRow B e size v n xs := by
  refine ⟨h.1, ?_⟩
  rcases h.2 with hn | ⟨g, cap, cur, rfl, _, hg, r⟩
  · exact .inl hn
  · exact .inr ⟨g, cap, cur, rfl, hB g rfl, hg, r⟩

theorem owns_slice {w : World} {base : Nat} {e : TypeId} {size : Nat} {v : Value} {n : Nat} {xs : List Value} (h : w.ownsRow base e size v n xs) : ∃ a c, v = .slice a n c := by
  rcases h.2 with ⟨rfl, rfl⟩ | ⟨g, cap, cur, rfl, _⟩
  · exact ⟨_, _, rfl⟩
  · exact ⟨_, _, rfl⟩

theorem wraps_i64 (n : Int) (h₀ : 0 ≤ n) (h₁ : n < 2 ^ 63) : IntKind.i64.wrap n = n := by rw [IntKind.wrap_i64]; omega

/-- 'or' of two ints whose bits do not meet. -/
theorem i64_or8 (x y : Int) (h0 : 0 ≤ x) (hx : x % 256 = 0) (h1 : x < 9223372036854775808) (h2 : 0 ≤ y) (h3 : y < 256) : bits .or .i64 x y = x + y :=
  bits_join .i64 63 (by decide) wraps_i64 8 x y h0 (by simpa using hx) (by simpa using h1) h2 (by simpa using h3) (by omega)
theorem i64_or16 (x y : Int) (h0 : 0 ≤ x) (hx : x % 65536 = 0) (h1 : x < 9223372036854775808) (h2 : 0 ≤ y) (h3 : y < 65536) : bits .or .i64 x y = x + y :=
  bits_join .i64 63 (by decide) wraps_i64 16 x y h0 (by simpa using hx) (by simpa using h1) h2 (by simpa using h3) (by omega)
theorem i64_or24 (x y : Int) (h0 : 0 ≤ x) (hx : x % 16777216 = 0) (h1 : x < 9223372036854775808) (h2 : 0 ≤ y) (h3 : y < 16777216) : bits .or .i64 x y = x + y :=
  bits_join .i64 63 (by decide) wraps_i64 24 x y h0 (by simpa using hx) (by simpa using h1) h2 (by simpa using h3) (by omega)

/-- Four bytes, the highest first, joined by 'or'. -/
theorem or_four (a b c d : UInt8) : bits .or .i64 (bits .or .i64 (bits .or .i64 ((a.toNat : Int) * 16777216) ((b.toNat : Int) * 65536)) ((c.toNat : Int) * 256)) (d.toNat : Int)
    = ((a.toNat * 16777216 + b.toNat * 65536 + c.toNat * 256 + d.toNat : Nat) : Int) := by
  have := a.toNat_lt; have := b.toNat_lt; have := c.toNat_lt; have := d.toNat_lt
  rw [i64_or24 ((a.toNat : Int) * 16777216) ((b.toNat : Int) * 65536) (by omega) (by omega) (by omega) (by omega) (by omega),
    i64_or16 ((a.toNat : Int) * 16777216 + (b.toNat : Int) * 65536) ((c.toNat : Int) * 256) (by omega) (by omega) (by omega) (by omega) (by omega),
    i64_or8 _ (d.toNat : Int) (by omega) (by omega) (by omega) (by omega) (by omega)]
  omega

theorem owns_slB {w : World} {base : Nat} {e : TypeId} {a : Option Addr} {n k c : Nat} {l : List UInt8} (h : w.ownsRow base e 1 (.slice a k c) n (l.map byteV)) : SlB w a c l := by
  have hl : l.length = n := by have := h.1; simpa using this
  rcases h.2 with ⟨hv, h0⟩ | ⟨g, cap, cur, hv, _, hg, hnc, _, hcs, _⟩
  · have : l = [] := List.eq_nil_of_length_eq_zero (by omega)
    subst this
    exact SlB.nil _ _ _
  · have hc := h.cells (g := g) (by rw [hv]; rfl)
    cases hv
    refine ⟨by omega, fun i hi => ⟨g, 0, rfl, ?_⟩⟩
    have := hc i (byteV l[i]) (by rw [List.getElem?_map, List.getElem?_eq_getElem hi]; rfl)
    rwa [Addr.add_lit] at this

theorem owns_strSl {w : World} {base : Nat} {e : TypeId} {a : Option Addr} {n k c : Nat} {ts : List ByteArray} (h : w.ownsRow base e 1 (.slice a k c) n (ts.map Value.string)) : StrSl w a c ts := by
  have hl : ts.length = n := by have := h.1; simpa using this
  rcases h.2 with ⟨hv, h0⟩ | ⟨g, cap, cur, hv, _, hg, hnc, _, hcs, _⟩
  · have : ts = [] := List.eq_nil_of_length_eq_zero (by omega)
    subst this
    exact ⟨Nat.zero_le _, fun i hi => by simp at hi⟩
  · have hc := h.cells (g := g) (by rw [hv]; rfl)
    cases hv
    refine ⟨by omega, fun i hi => ⟨g, 0, rfl, ?_⟩⟩
    have := hc i (.string ts[i]) (by rw [List.getElem?_map, List.getElem?_eq_getElem hi]; rfl)
    rwa [Addr.add_lit] at this

/-- A slice of strings that came in. -/
def StrA (w : World) (v : Value) (ts : List ByteArray) : Prop :=
  (v = .slice Option.none 0 0 ∧ ts = []) ∨
  ∃ a c, v = .slice (some a) ts.length c ∧ ts.length ≤ c ∧ ∀ i (h : i < ts.length), w.cell? (a.add i) = some (.string ts[i])

theorem addr_plain {w : World} {a : Addr} {v : Value} (h : w.cell? (a.add 0) = some v) : ∃ g o, a = ⟨g, o, Option.none⟩ := by
  obtain ⟨g, o, s⟩ := a
  have := World.cell?_spot h
  simp [Addr.add] at this
  exact ⟨g, o, by rw [this]⟩

theorem StrA.sl {w : World} {v : Value} {ts : List ByteArray} (h : StrA w v ts) : ∃ a c, v = .slice a ts.length c ∧ StrSl w a c ts ∧ Src w v ts.length 1 (ts.map Value.string) := by
  rcases h with ⟨rfl, rfl⟩ | ⟨a, c, rfl, hl, hc⟩
  · exact ⟨_, _, rfl, ⟨Nat.zero_le _, fun i hi => by simp at hi⟩, Src.nil _ _⟩
  · refine ⟨_, c, rfl, ⟨hl, fun i hi => ?_⟩, .inr ⟨a, c, rfl, by simp, fun j u hu => ?_, fun u hu => ?_⟩⟩
    · obtain ⟨g, o, rfl⟩ := addr_plain (hc 0 (by omega))
      have := hc i hi
      rw [Addr.add_lit] at this
      exact ⟨g, o, rfl, this⟩
    · rw [List.getElem?_map] at hu
      rcases Nat.lt_or_ge j ts.length with hj | hj
      · rw [List.getElem?_eq_getElem hj] at hu
        cases hu
        exact hc j hj
      · rw [List.getElem?_eq_none hj] at hu; cases hu
    · obtain ⟨b, _, rfl⟩ := List.mem_map.1 hu
      rfl

end Go.Proofs.Ytfnmnmjpcamkiaa
