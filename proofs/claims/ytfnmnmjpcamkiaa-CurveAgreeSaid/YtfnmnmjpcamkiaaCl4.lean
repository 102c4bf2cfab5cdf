/-
  The ladder modulo p in plain numbers, and what it is at 9 and 9. No program in sight. (Printed by wip/tools/mklad.py.)
-/
import Derived.Test.YtfnmnmjpcamkiaaCl2
import Derived.Test.YtfnmnmjpcamkiaaPrm
import Derived.Test.YtfnmnmjpcamkiaaFrm
namespace Go.Proofs.Ytfnmnmjpcamkiaa
set_option linter.unusedVariables false

def qP : Nat := 57896044618658097711785492504343953926634992332820282019728792003956564819949
def qE : Nat := 57896044618658097711785492504343953926634992332820282019728792003956564819947
theorem qE_eq : qE = 57896044618658097711785492504343953926634992332820282019728792003956564819947 := rfl
theorem qP_eq : qP = 57896044618658097711785492504343953926634992332820282019728792003956564819949 := rfl

def nadd (a b : Nat) : Nat := (a + b) % qP
def nsub (a b : Nat) : Nat := (a + (qP - b)) % qP
def nmul (a b : Nat) : Nat := a * b % qP

def nP (x z : Nat) : Nat × Nat :=
  let s := nadd x z
  let d := nsub x z
  let ss := nmul s s
  let dd := nmul d d
  let e := nsub ss dd
  (nmul ss dd, nmul e (nadd (nmul 121665 e) ss))

def nQ (u x2 z2 x3 z3 : Nat) : Nat × Nat :=
  let da := nmul (nsub x3 z3) (nadd x2 z2)
  let cb := nmul (nadd x3 z3) (nsub x2 z2)
  (nmul (nadd da cb) (nadd da cb), nmul (nmul (nsub da cb) (nsub da cb)) u)

def nS (u N n : Nat) (s : (Nat × Nat) × (Nat × Nat) × Bool) : (Nat × Nat) × (Nat × Nat) × Bool :=
  let b := N.testBit n
  let p := if s.2.2 = b then s.1 else s.2.1
  let q := if s.2.2 = b then s.2.1 else s.1
  (nP p.1 p.2, nQ u p.1 p.2 q.1 q.2, b)

def nL (u N : Nat) : Nat → (Nat × Nat) × (Nat × Nat) × Bool → (Nat × Nat) × (Nat × Nat) × Bool
  | 0, s => s
  | k + 1, s => nL u N k (nS u N k s)

def nE (u N : Nat) : Nat × Nat :=
  let s := nL u N 255 ((1, 0), (u, 1), false)
  if s.2.2 then s.2.1 else s.1

/-- The product, as a number below p. -/
def timesN (u N : Nat) : Nat := nmul (nE u N).1 ((nE u N).2 ^ qE % qP)

/-! ### The elements' ladder is this one -/

def Mod (e : El) (n : Nat) : Prop := e.val % PP = (n : Int)

theorem qP_int : ((qP : Nat) : Int) = PP := rfl

theorem Mod.lt {e : El} {n : Nat} (h : Mod e n) : n < qP := by
  have := Int.emod_lt_of_pos e.val (show (0 : Int) < PP by decide)
  rw [h] at this
  rw [← qP_int] at this
  exact Int.ofNat_lt.1 this

theorem Mod.add {a b : El} {m n : Nat} (ha : Mod a m) (hb : Mod b n) : Mod (plusE a b) (nadd m n) := by
  unfold Mod nadd at *
  rw [plusE_mod, Int.add_emod, ha, hb, ← qP_int]
  simp

theorem Mod.mul {a b : El} {m n : Nat} (ha : Mod a m) (hb : Mod b n) : Mod (timE a b) (nmul m n) := by
  unfold Mod nmul at *
  rw [timE_mod, Int.mul_emod, ha, hb, ← qP_int]
  simp

theorem Mod.sub {a b : El} {m n : Nat} (ha : Mod a m) (hb : Mod b n) : Mod (minE a b) (nsub m n) := by
  have hn := hb.lt
  unfold Mod nsub at *
  rw [minE_mod, Int.sub_emod, ha, hb, ← qP_int, Int.natCast_emod, Int.natCast_add, Int.natCast_sub (Nat.le_of_lt hn)]
  rw [show (m : Int) + ((qP : Int) - (n : Int)) = (m : Int) - (n : Int) + (qP : Int) by omega, Int.add_emod_right]

theorem Mod.num (n : Nat) (h : n < 2251799813685248) : Mod ⟨(n : Int), 0, 0, 0, 0⟩ n := by
  unfold Mod El.val PP
  simp only []
  omega

theorem Mod.inv {a : El} {m : Nat} (ha : Mod a m) : Mod (invE a) (m ^ qE % qP) := by
  unfold Mod at *
  rw [qE_eq, qP_eq, invE_mod, pow_mod_int, ha, cast_pow_mod]

def ModPt (p : Pt) (q : Nat × Nat) : Prop := Mod p.x q.1 ∧ Mod p.z q.2

theorem ModPt.stepP {p : Pt} {q : Nat × Nat} (h : ModPt p q) : ModPt (stepP p) (nP q.1 q.2) := by
  have hs := h.1.add h.2
  have hd := h.1.sub h.2
  have hss := hs.mul hs
  have hdd := hd.mul hd
  have he := hss.sub hdd
  exact ⟨hss.mul hdd, he.mul (((Mod.num 121665 (by decide)).mul he).add hss)⟩

theorem ModPt.stepQ {u : El} {v : Nat} {p p2 : Pt} {q q2 : Nat × Nat} (hu : Mod u v) (h : ModPt p q) (k : ModPt p2 q2) : ModPt (stepQ u p p2) (nQ v q.1 q.2 q2.1 q2.2) := by
  have da := (k.1.sub k.2).mul (h.1.add h.2)
  have cb := (k.1.add k.2).mul (h.1.sub h.2)
  exact ⟨(da.add cb).mul (da.add cb), ((da.sub cb).mul (da.sub cb)).mul hu⟩

def ModS (s : Pt × Pt × Bool) (t : (Nat × Nat) × (Nat × Nat) × Bool) : Prop := ModPt s.1 t.1 ∧ ModPt s.2.1 t.2.1 ∧ s.2.2 = t.2.2

theorem ModS.step {u : El} {v N n : Nat} {s : Pt × Pt × Bool} {t : (Nat × Nat) × (Nat × Nat) × Bool} (hu : Mod u v) (h : ModS s t) : ModS (ladS u N n s) (nS v N n t) := by
  obtain ⟨h1, h2, h3⟩ := h
  unfold ladS nS
  rw [h3]
  by_cases hb : t.2.2 = N.testBit n
  · simp only [hb, if_true]
    exact ⟨h1.stepP, ModPt.stepQ hu h1 h2, rfl⟩
  · simp only [if_neg hb]
    exact ⟨h2.stepP, ModPt.stepQ hu h2 h1, rfl⟩

theorem ModS.lad {u : El} {v N : Nat} (hu : Mod u v) : ∀ (k : Nat) {s : Pt × Pt × Bool} {t : (Nat × Nat) × (Nat × Nat) × Bool}, ModS s t → ModS (ladN u N k s) (nL v N k t)
  | 0, _, _, h => h
  | k + 1, _, _, h => ModS.lad hu k (h.step hu)

theorem ladE_mod {u : El} {v N : Nat} (hu : Mod u v) : ModPt (ladE u N) (nE v N) := by
  have h1 : Mod oneE 1 := Mod.num 1 (by decide)
  have h0 : Mod zE 0 := Mod.num 0 (by decide)
  have h := ModS.lad (N := N) hu 255 (s := (⟨oneE, zE⟩, ⟨u, oneE⟩, false)) (t := ((1, 0), (v, 1), false)) ⟨⟨h1, h0⟩, ⟨hu, h1⟩, rfl⟩
  unfold ladE nE
  obtain ⟨a, b, c⟩ := h
  simp only []
  rw [c]
  split
  · exact b
  · exact a

theorem timesE_mod {u : El} {v N : Nat} (hu : Mod u v) : (timesE u N).val % PP = (timesN v N : Int) := by
  have h := ladE_mod (N := N) hu
  exact h.1.mul h.2.inv

/-- times, in plain numbers. -/
theorem timesB_eq (k u : ByteArray) : timesB k u = enc (timesN ((dec u % 57896044618658097711785492504343953926634992332820282019728792003956564819968 % PP).toNat) (clampN (decL k.data.toList)) : Nat) := by
  unfold timesB
  rw [timesE_mod (v := (dec u % 57896044618658097711785492504343953926634992332820282019728792003956564819968 % PP).toNat)]
  unfold Mod
  rw [canE_val _ (Int.emod_nonneg _ (by decide)) (Int.emod_lt_of_pos _ (by decide)), Int.toNat_of_nonneg (Int.emod_nonneg _ (by decide))]

/-! ### The kernel's way through it -/

def frc {α : Type} (n : Nat) (f : Nat → α) : α := Nat.rec (f 0) (fun m _ => f (m + 1)) n
theorem frc_eq {α : Type} (n : Nat) (f : Nat → α) : frc n f = f n := by cases n <;> rfl

def kS {α : Type} (u x2 z2 x3 z3 : Nat) (f : Nat → Nat → Nat → Nat → α) : α :=
  frc (nadd x2 z2) fun s => frc (nsub x2 z2) fun d => frc (nmul s s) fun ss => frc (nmul d d) fun dd => frc (nsub ss dd) fun e =>
  frc (nmul (nsub x3 z3) s) fun da => frc (nmul (nadd x3 z3) d) fun cb => frc (nadd da cb) fun t => frc (nsub da cb) fun v =>
  frc (nmul ss dd) fun a => frc (nmul e (nadd (nmul 121665 e) ss)) fun b => frc (nmul t t) fun c => frc (nmul (nmul v v) u) fun g => f a b c g

theorem kS_eq {α : Type} (u x2 z2 x3 z3 : Nat) (f : Nat → Nat → Nat → Nat → α) : kS u x2 z2 x3 z3 f = f (nP x2 z2).1 (nP x2 z2).2 (nQ u x2 z2 x3 z3).1 (nQ u x2 z2 x3 z3).2 := by
  simp only [kS, frc_eq, nP, nQ]

def kL (u N : Nat) : Nat → Nat → Nat → Nat → Nat → Bool → Nat × Nat
  | 0, x2, z2, x3, z3, s => if s then (x3, z3) else (x2, z2)
  | k + 1, x2, z2, x3, z3, s =>
    if s = N.testBit k then kS u x2 z2 x3 z3 fun a b c d => kL u N k a b c d (N.testBit k) else kS u x3 z3 x2 z2 fun a b c d => kL u N k a b c d (N.testBit k)

theorem kL_eq (u N : Nat) : ∀ (k x2 z2 x3 z3 : Nat) (s : Bool), kL u N k x2 z2 x3 z3 s = (let t := nL u N k ((x2, z2), (x3, z3), s); if t.2.2 then t.2.1 else t.1)
  | 0, _, _, _, _, _ => rfl
  | k + 1, x2, z2, x3, z3, s => by
    unfold kL nL nS
    by_cases h : s = N.testBit k
    · simp only [h, if_true]
      rw [kS_eq, kL_eq u N k]
    · simp only [if_neg h]
      rw [kS_eq, kL_eq u N k]

set_option maxRecDepth 100000 in
theorem kL_nine : kL 9 (clampN 9) 255 1 0 9 1 false = (51308241408682788594860346115987951272351162540477535997429117057761542978319, 47154794169143379669309714065436086811230587292877743942666655413522937240343) := by decide +kernel

theorem timesN_of {u N X Z I V : Nat} (h : nE u N = (X, Z)) (hi : pw 255 Z qE qP = I) (hv : nmul X I = V) : timesN u N = V := by
  unfold timesN
  rw [h]
  show nmul X (Z ^ qE % qP) = V
  rw [← pw_eq 255 Z qE qP (by decide +kernel), hi, hv]

theorem nE_nine : nE 9 (clampN 9) = (51308241408682788594860346115987951272351162540477535997429117057761542978319, 47154794169143379669309714065436086811230587292877743942666655413522937240343) := by
  rw [← kL_nine, kL_eq]
  rfl

set_option maxRecDepth 100000 in
theorem pw_nine : pw 255 47154794169143379669309714065436086811230587292877743942666655413522937240343 qE qP = 39574951172635768184342202644803103184672000961821277324233674078280658367447 := by decide +kernel

theorem timesN_nine : timesN 9 (clampN 9) = 54815864700279561125610391355931320566748822376190344121911385527384361806914 := timesN_of nE_nine pw_nine (by decide +kernel)

def nineB : ByteArray := { data := #[66, 44, 142, 122, 98, 39, 215, 188, 161, 53, 11, 62, 43, 183, 39, 159, 120, 151, 184, 123, 182, 133, 75, 120, 60, 96, 232, 3, 17, 174, 48, 121] }

theorem enc_nine : enc (54815864700279561125610391355931320566748822376190344121911385527384361806914 : Nat) = nineB := by decide +kernel

theorem timesB_nine : timesB (enc 9) (enc 9) = nineB := by
  rw [timesB_eq, dec_enc 9 (by decide) (by decide)]
  have h : decL (enc 9).data.toList = 9 := by decide +kernel
  rw [h, show ((9 : Int) % 57896044618658097711785492504343953926634992332820282019728792003956564819968 % PP).toNat = 9 by decide, timesN_nine, enc_nine]

end Go.Proofs.Ytfnmnmjpcamkiaa

