/-
  Layer 27: the document's Links: a link is put in, a frame is added. Printed by mkrk.py.
-/
import Derived.Test.YtkoplgpobagfoaaRi
import Derived.Test.YtkoplgpobagfoaaSe
namespace Go.Proofs.Ytkoplgpobagfoaa
open Go.RowKit
set_option linter.unusedVariables false
set_option linter.unusedSimpArgs false

/-- What follows the region numbered n, in its sequence. -/
def behind (n : Nat) : Code → Option Code
  | .seq a b => match a with
    | .region k _ _ => if k == n then some b else behind n b
    | a => match behind n a with
      | some c => some c
      | none => behind n b
  | .block _ c => behind n c
  | .scope c => behind n c
  | .loop c => behind n c
  | .cond _ a b => match behind n a with
    | some c => some c
    | none => behind n b
  | _ => none
noncomputable def put13 : Code := (Try.f13.body.bind (behind 11)).getD .skip
noncomputable def add13 : Code := (Try.f13.body.bind (partAt 16)).getD .skip

set_option maxRecDepth 1000000 in
set_option maxHeartbeats 6400000 in
theorem lk_put (w W : World) (g o n c i k m co : Nat) (po : Option Addr) (nb : Bool) (out out1 : List Fr) (x : Fr) (hO : OwnK w W (.slice po m co) out) (ht : Touch Nothing w W) (hm : m = out.length) (hmn : m ≤ 65536) (hi : i < n) (hk : k ≤ m)
    (c1 : W.cell? ⟨g, o + i * 4 + 1, none⟩ = some (.int .i64 x.f)) (c2 : W.cell? ⟨g, o + i * 4 + 2, none⟩ = some (.int .i64 x.t)) (hgw : g < w.heap.size) (hnb : nb = !isAt out k x)
    (hput : out1 = if isAt out k x = true then out else out.take k ++ ⟨x.f, x.t, 0, 0⟩ :: out.drop k)
    {z1 z2 z3 z4 z5 z9 z10 z11 z12 z13 z14 z15 z16 z17 z18 z19 z20 z21 z22 z23 z24 z25 z26 z27 z28 z29 z30 z31 z32 z33 z34 z35 z36 z37 z38 z39 z40 z41 z42 z43 z44 z45 z46 z47 z48 z49 z50 z51 z52 z53 z54 z55 z56 z57 z58 z59 z60 z61 z62 z63 z64 z65 z66 z67 z68 z69 z70 z71 z72 z73 z74 z75 z76 z77 z78 z79 z80 z81 z82 z83 z84 z85 z86 z87 z88 z89 z90 z91 z92 z93 z94 z95 z96 z97 z99 z100 z101 z102 z103 z104 z105 z106 z107 z108 z109 z110 z111 z112 z113 z114 z115 z116 z117 z118 z119 z120 z121 z122 z123 z124 z125 z126 z127 z128 z129 z130 z131 z132 z133 z134 z135 z136 z137 z138 z139 z140 z141 z142 z143 z144 : Value} {Q : Exit → Act → World → Prop} (hP : ∀ c (a : Act) (w : World) d v, Q (.panic c) (a.put d v) w → Q (.panic c) a w)
    (hQ : ∀ (v' : Value) (W' : World) (y9 y99 y100 y101 y102 y103 y104 y105 y106 y107 y108 y109 y110 y111 y112 y113 y114 y115 y116 y117 y118 y119 y120 y121 y122 : Value), OwnK w W' v' out1 → Touch Nothing w W' → Q .normal ⟨List.toArray (.slice (some ⟨g, o, none⟩) n c :: z1 :: z2 :: z3 :: z4 :: z5 :: v' :: .int .i64 (i : Int) :: .int .i64 (k : Int) :: y9 :: z10 :: z11 :: z12 :: z13 :: z14 :: z15 :: z16 :: z17 :: z18 :: z19 :: z20 :: z21 :: z22 :: z23 :: z24 :: z25 :: z26 :: z27 :: z28 :: z29 :: z30 :: z31 :: z32 :: z33 :: z34 :: z35 :: z36 :: z37 :: z38 :: z39 :: z40 :: z41 :: z42 :: z43 :: z44 :: z45 :: z46 :: z47 :: z48 :: z49 :: z50 :: z51 :: z52 :: z53 :: z54 :: z55 :: z56 :: z57 :: z58 :: z59 :: z60 :: z61 :: z62 :: z63 :: z64 :: z65 :: z66 :: z67 :: z68 :: z69 :: z70 :: z71 :: z72 :: z73 :: z74 :: z75 :: z76 :: z77 :: z78 :: z79 :: z80 :: z81 :: z82 :: z83 :: z84 :: z85 :: z86 :: z87 :: z88 :: z89 :: z90 :: z91 :: z92 :: z93 :: z94 :: z95 :: z96 :: z97 :: .bool nb :: y99 :: y100 :: y101 :: y102 :: y103 :: y104 :: y105 :: y106 :: y107 :: y108 :: y109 :: y110 :: y111 :: y112 :: y113 :: y114 :: y115 :: y116 :: y117 :: y118 :: y119 :: y120 :: y121 :: y122 :: z123 :: z124 :: z125 :: z126 :: z127 :: z128 :: z129 :: z130 :: z131 :: z132 :: z133 :: z134 :: z135 :: z136 :: z137 :: z138 :: z139 :: z140 :: z141 :: z142 :: z143 :: z144 :: []), []⟩ W') :
    Code.wp Try.prog put13 Q ⟨List.toArray (.slice (some ⟨g, o, none⟩) n c :: z1 :: z2 :: z3 :: z4 :: z5 :: .slice po m co :: .int .i64 (i : Int) :: .int .i64 (k : Int) :: z9 :: z10 :: z11 :: z12 :: z13 :: z14 :: z15 :: z16 :: z17 :: z18 :: z19 :: z20 :: z21 :: z22 :: z23 :: z24 :: z25 :: z26 :: z27 :: z28 :: z29 :: z30 :: z31 :: z32 :: z33 :: z34 :: z35 :: z36 :: z37 :: z38 :: z39 :: z40 :: z41 :: z42 :: z43 :: z44 :: z45 :: z46 :: z47 :: z48 :: z49 :: z50 :: z51 :: z52 :: z53 :: z54 :: z55 :: z56 :: z57 :: z58 :: z59 :: z60 :: z61 :: z62 :: z63 :: z64 :: z65 :: z66 :: z67 :: z68 :: z69 :: z70 :: z71 :: z72 :: z73 :: z74 :: z75 :: z76 :: z77 :: z78 :: z79 :: z80 :: z81 :: z82 :: z83 :: z84 :: z85 :: z86 :: z87 :: z88 :: z89 :: z90 :: z91 :: z92 :: z93 :: z94 :: z95 :: z96 :: z97 :: .bool nb :: z99 :: z100 :: z101 :: z102 :: z103 :: z104 :: z105 :: z106 :: z107 :: z108 :: z109 :: z110 :: z111 :: z112 :: z113 :: z114 :: z115 :: z116 :: z117 :: z118 :: z119 :: z120 :: z121 :: z122 :: z123 :: z124 :: z125 :: z126 :: z127 :: z128 :: z129 :: z130 :: z131 :: z132 :: z133 :: z134 :: z135 :: z136 :: z137 :: z138 :: z139 :: z140 :: z141 :: z142 :: z143 :: z144 :: []), []⟩ W := by
  conv => arg 2; whnf
  replace hQ := Lib.hid hQ
  cases nb
  · have ha : isAt out k x = true := by simpa using hnb.symm
    rw [if_pos ha] at hput
    subst hput
    have hh := Lib.hid (And.intro hO ht)
    clear hO ht hnb ha c1 c2 hm
    go_wp2
    exact hQ.out _ _ _ _ _ _ _ _ _ _ _ _ _ _ _ _ _ _ _ _ _ _ _ _ _ _ _ hh.out.1 hh.out.2
  · have ha : ¬ isAt out k x = true := by simpa using hnb.symm
    rw [if_neg ha] at hput
    have i0 : (0 : Int) ≤ (i : Int) := by omega
    have i1 : (i : Int) < (n : Int) := by omega
    have k0 : (0 : Int) ≤ (k : Int) := by omega
    have k1 : (k : Int) ≤ (m : Int) := by omega
    rcases hO with ⟨hv, rfl⟩ | ⟨gk, ck, hv, hR, hgk, hlc, hmx⟩
    · simp at hm
      subst hm
      obtain rfl : k = 0 := by omega
      cases hv
      clear hnb ha k0 k1
      have hI := Lib.hid (show FrA W (.slice none 0 0) ([] : List Fr) from .inl ⟨rfl, rfl⟩)
      have hE := Lib.hid (show OwnK W W (.slice none 0 0) ([] : List Fr) from .inl ⟨rfl, rfl⟩)
      go_upto_region 14 with (first | (at_builtin; refine wpList_plain rfl fun K hK => wp_appKS (L := []) (M := []) (w0 := W) (.tmp 99) (.tmp 102) rfl rfl hE.out rfl hI.out (Touch.refl _ _) (by simp) (fun v1 W1 hO1 t1 _ => hK _ _ ?_); clear hK K; replace hO1 := Lib.hid hO1))
      refine wp_region_held_drew (S := fun w' => Touch Nothing W w') (by kernel_rfl) t1.drew (fun hS0 => ?_)
      refine d_value (i := 0) rfl (by kernel_rfl) (by kernel_rfl) (by kernel_rfl) rfl (fun _ _ _ h => hP _ _ _ _ _ h) (fun w9 hS => run_move rfl rfl) hS0 ?_
      simp only [Act.put, List.setIfInBounds_toArray, List.set_cons_zero, List.set_cons_succ]
      refine d_value (i := 1) rfl (by kernel_rfl) (by kernel_rfl) (by kernel_rfl) rfl (fun _ _ _ h => hP _ _ _ _ _ h) (fun w9 hS => run_move rfl rfl) hS0 ?_
      simp only [Act.put, List.setIfInBounds_toArray, List.set_cons_zero, List.set_cons_succ]
      refine d_value (i := 2) rfl (by kernel_rfl) (by kernel_rfl) (by kernel_rfl) rfl (fun _ _ _ h => hP _ _ _ _ _ h) (fun w9 hS => run_move rfl rfl) hS0 ?_
      simp only [Act.put, List.setIfInBounds_toArray, List.set_cons_zero, List.set_cons_succ]
      refine d_value (i := 3) rfl (by kernel_rfl) (by kernel_rfl) (by kernel_rfl) rfl (fun _ _ _ h => hP _ _ _ _ _ h) (fun w9 hS => run_ia22o i rfl rfl rfl rfl hi) hS0 ?_
      simp only [Act.put, List.setIfInBounds_toArray, List.set_cons_zero, List.set_cons_succ]
      refine d_value (i := 4) rfl (by kernel_rfl) (by kernel_rfl) (by kernel_rfl) rfl (fun _ _ _ h => hP _ _ _ _ _ h) (fun w9 hS => run_f50o 1 rfl rfl (by decide)) hS0 ?_
      simp only [Act.put, List.setIfInBounds_toArray, List.set_cons_zero, List.set_cons_succ]
      refine d_value (i := 5) rfl (by kernel_rfl) (by kernel_rfl) (by kernel_rfl) rfl (fun _ _ _ h => hP _ _ _ _ _ h) (fun w9 hS => run_load3 rfl rfl (hS.cell c1 (fun q => q))) hS0 ?_
      simp only [Act.put, List.setIfInBounds_toArray, List.set_cons_zero, List.set_cons_succ]
      refine d_value (i := 6) rfl (by kernel_rfl) (by kernel_rfl) (by kernel_rfl) rfl (fun _ _ _ h => hP _ _ _ _ _ h) (fun w9 hS => run_move rfl rfl) hS0 ?_
      simp only [Act.put, List.setIfInBounds_toArray, List.set_cons_zero, List.set_cons_succ]
      refine d_value (i := 7) rfl (by kernel_rfl) (by kernel_rfl) (by kernel_rfl) rfl (fun _ _ _ h => hP _ _ _ _ _ h) (fun w9 hS => run_move rfl rfl) hS0 ?_
      simp only [Act.put, List.setIfInBounds_toArray, List.set_cons_zero, List.set_cons_succ]
      refine d_value (i := 8) rfl (by kernel_rfl) (by kernel_rfl) (by kernel_rfl) rfl (fun _ _ _ h => hP _ _ _ _ _ h) (fun w9 hS => run_ia22o i rfl rfl rfl rfl hi) hS0 ?_
      simp only [Act.put, List.setIfInBounds_toArray, List.set_cons_zero, List.set_cons_succ]
      refine d_value (i := 9) rfl (by kernel_rfl) (by kernel_rfl) (by kernel_rfl) rfl (fun _ _ _ h => hP _ _ _ _ _ h) (fun w9 hS => run_f50o 2 rfl rfl (by decide)) hS0 ?_
      simp only [Act.put, List.setIfInBounds_toArray, List.set_cons_zero, List.set_cons_succ]
      refine d_value (i := 10) rfl (by kernel_rfl) (by kernel_rfl) (by kernel_rfl) rfl (fun _ _ _ h => hP _ _ _ _ _ h) (fun w9 hS => run_load3 rfl rfl (hS.cell c2 (fun q => q))) hS0 ?_
      simp only [Act.put, List.setIfInBounds_toArray, List.set_cons_zero, List.set_cons_succ]
      refine d_value (i := 11) rfl (by kernel_rfl) (by kernel_rfl) (by kernel_rfl) rfl (fun _ _ _ h => hP _ _ _ _ _ h) (fun w9 hS => run_build29 (m := x.f) (n := x.t) rfl rfl rfl) hS0 ?_
      simp only [Act.put, List.setIfInBounds_toArray, List.set_cons_zero, List.set_cons_succ]
      refine d_new (i := 12) (by kernel_rfl) rfl rfl (run_bs24 (f := ⟨x.f, x.t, 0, 0⟩) rfl rfl) (hS0.alloc _) ?_
      simp only [Act.put, List.setIfInBounds_toArray, List.set_cons_zero, List.set_cons_succ]
      have hg := heap_new W1.drew (.cells (frCs ⟨x.f, x.t, 0, 0⟩).toArray 29)
      have hOa := (hO1.out).keep (((Touch.refl Nothing W1).drew).alloc (.cells (frCs ⟨x.f, x.t, 0, 0⟩).toArray 29))
      refine d_step (i := 13) (by kernel_rfl) rfl rfl (fun K hK => wp_appK _ _ rfl rfl hOa rfl hg (hS0.alloc _) (by first | omega | (simp; done) | (simp; omega)) (fun v2 W2 hO2 t2 _ => hK _ _ t2 ?_))
      clear hK K
      simp only [Act.put, List.setIfInBounds_toArray, List.set_cons_zero, List.set_cons_succ]
      refine d_value (i := 14) rfl (by kernel_rfl) (by kernel_rfl) (by kernel_rfl) rfl (fun _ _ _ h => hP _ _ _ _ _ h) (fun w9 hS => run_asgn (v := v2) rfl rfl) t2 ?_
      simp only [Act.put, List.setIfInBounds_toArray, List.set_cons_zero, List.set_cons_succ]
      refine wpAnyH_done (by kernel_rfl) ?_ _
      replace hO2 := Lib.hid hO2
      clear hS0 hg hOa
      have hJ := Lib.hid (show FrA W2 (.slice none 0 0) ([] : List Fr) from .inl ⟨rfl, rfl⟩)
      go_wp2_with (first | (at_builtin; refine wpList_plain rfl fun K hK => wp_appKS (v := v2) (L := [⟨x.f, x.t, 0, 0⟩]) (M := []) (w0 := W) (.tmp 118) (.tmp 121) rfl rfl hO2.out rfl hJ.out t2 (by simp) (fun v3 W3 hO3 t3 _ => hK _ _ ?_); clear hK K; replace hO3 := Lib.hid hO3))
      exact hQ.out _ _ _ _ _ _ _ _ _ _ _ _ _ _ _ _ _ _ _ _ _ _ _ _ _ _ _ (by rw [hput]; exact OwnK.mono hO3.out ht.size) (ht.trans' t3)
    · rw [← hm] at hv
      cases hv
      rw [← hm] at hlc
      have k2 : (k : Int) ≤ (co : Int) := by omega
      have k3 : (m : Int) ≤ (co : Int) := by omega
      have hH := Lib.hid (OwnK.head (w0 := w) hR (by omega) k (by omega))
      have hE := Lib.hid (show OwnK W W (.slice none 0 0) ([] : List Fr) from .inl ⟨rfl, rfl⟩)
      have hlt : (out.take k).length ≤ 65536 := by rw [List.length_take]; omega
      have hld : (out.drop k).length ≤ 65536 := by rw [List.length_drop]; omega
      clear hnb ha
      replace hput := Lib.hid hput
      replace hR := Lib.hid hR
      replace hm := Lib.hid hm
      obtain ⟨H, hHe⟩ : ∃ H, H = out.take k := ⟨_, rfl⟩
      rw [← hHe] at hH hlt
      replace hHe := Lib.hid hHe
      go_upto_region 14 with (first | (at_builtin; refine wpList_plain rfl fun K hK => wp_appKS (L := []) (M := H) (w0 := W) (.tmp 99) (.tmp 102) rfl rfl hE.out rfl hH.out (Touch.refl _ _) (by simp; omega) (fun v1 W1 hO1 t1 _ => hK _ _ ?_); clear hK K; rewrite [List.nil_append] at hO1; replace hO1 := Lib.hid hO1))
      refine wp_region_held_drew (S := fun w' => Touch Nothing W w') (by kernel_rfl) t1.drew (fun hS0 => ?_)
      refine d_value (i := 0) rfl (by kernel_rfl) (by kernel_rfl) (by kernel_rfl) rfl (fun _ _ _ h => hP _ _ _ _ _ h) (fun w9 hS => run_move rfl rfl) hS0 ?_
      simp only [Act.put, List.setIfInBounds_toArray, List.set_cons_zero, List.set_cons_succ]
      refine d_value (i := 1) rfl (by kernel_rfl) (by kernel_rfl) (by kernel_rfl) rfl (fun _ _ _ h => hP _ _ _ _ _ h) (fun w9 hS => run_move rfl rfl) hS0 ?_
      simp only [Act.put, List.setIfInBounds_toArray, List.set_cons_zero, List.set_cons_succ]
      refine d_value (i := 2) rfl (by kernel_rfl) (by kernel_rfl) (by kernel_rfl) rfl (fun _ _ _ h => hP _ _ _ _ _ h) (fun w9 hS => run_move rfl rfl) hS0 ?_
      simp only [Act.put, List.setIfInBounds_toArray, List.set_cons_zero, List.set_cons_succ]
      refine d_value (i := 3) rfl (by kernel_rfl) (by kernel_rfl) (by kernel_rfl) rfl (fun _ _ _ h => hP _ _ _ _ _ h) (fun w9 hS => run_ia22o i rfl rfl rfl rfl hi) hS0 ?_
      simp only [Act.put, List.setIfInBounds_toArray, List.set_cons_zero, List.set_cons_succ]
      refine d_value (i := 4) rfl (by kernel_rfl) (by kernel_rfl) (by kernel_rfl) rfl (fun _ _ _ h => hP _ _ _ _ _ h) (fun w9 hS => run_f50o 1 rfl rfl (by decide)) hS0 ?_
      simp only [Act.put, List.setIfInBounds_toArray, List.set_cons_zero, List.set_cons_succ]
      refine d_value (i := 5) rfl (by kernel_rfl) (by kernel_rfl) (by kernel_rfl) rfl (fun _ _ _ h => hP _ _ _ _ _ h) (fun w9 hS => run_load3 rfl rfl (hS.cell c1 (fun q => q))) hS0 ?_
      simp only [Act.put, List.setIfInBounds_toArray, List.set_cons_zero, List.set_cons_succ]
      refine d_value (i := 6) rfl (by kernel_rfl) (by kernel_rfl) (by kernel_rfl) rfl (fun _ _ _ h => hP _ _ _ _ _ h) (fun w9 hS => run_move rfl rfl) hS0 ?_
      simp only [Act.put, List.setIfInBounds_toArray, List.set_cons_zero, List.set_cons_succ]
      refine d_value (i := 7) rfl (by kernel_rfl) (by kernel_rfl) (by kernel_rfl) rfl (fun _ _ _ h => hP _ _ _ _ _ h) (fun w9 hS => run_move rfl rfl) hS0 ?_
      simp only [Act.put, List.setIfInBounds_toArray, List.set_cons_zero, List.set_cons_succ]
      refine d_value (i := 8) rfl (by kernel_rfl) (by kernel_rfl) (by kernel_rfl) rfl (fun _ _ _ h => hP _ _ _ _ _ h) (fun w9 hS => run_ia22o i rfl rfl rfl rfl hi) hS0 ?_
      simp only [Act.put, List.setIfInBounds_toArray, List.set_cons_zero, List.set_cons_succ]
      refine d_value (i := 9) rfl (by kernel_rfl) (by kernel_rfl) (by kernel_rfl) rfl (fun _ _ _ h => hP _ _ _ _ _ h) (fun w9 hS => run_f50o 2 rfl rfl (by decide)) hS0 ?_
      simp only [Act.put, List.setIfInBounds_toArray, List.set_cons_zero, List.set_cons_succ]
      refine d_value (i := 10) rfl (by kernel_rfl) (by kernel_rfl) (by kernel_rfl) rfl (fun _ _ _ h => hP _ _ _ _ _ h) (fun w9 hS => run_load3 rfl rfl (hS.cell c2 (fun q => q))) hS0 ?_
      simp only [Act.put, List.setIfInBounds_toArray, List.set_cons_zero, List.set_cons_succ]
      refine d_value (i := 11) rfl (by kernel_rfl) (by kernel_rfl) (by kernel_rfl) rfl (fun _ _ _ h => hP _ _ _ _ _ h) (fun w9 hS => run_build29 (m := x.f) (n := x.t) rfl rfl rfl) hS0 ?_
      simp only [Act.put, List.setIfInBounds_toArray, List.set_cons_zero, List.set_cons_succ]
      refine d_new (i := 12) (by kernel_rfl) rfl rfl (run_bs24 (f := ⟨x.f, x.t, 0, 0⟩) rfl rfl) (hS0.alloc _) ?_
      simp only [Act.put, List.setIfInBounds_toArray, List.set_cons_zero, List.set_cons_succ]
      have hg := heap_new W1.drew (.cells (frCs ⟨x.f, x.t, 0, 0⟩).toArray 29)
      have hOa := (hO1.out).keep (((Touch.refl Nothing W1).drew).alloc (.cells (frCs ⟨x.f, x.t, 0, 0⟩).toArray 29))
      refine d_step (i := 13) (by kernel_rfl) rfl rfl (fun K hK => wp_appK _ _ rfl rfl hOa rfl hg (hS0.alloc _) (by first | omega | (simp; done) | (simp; omega)) (fun v2 W2 hO2 t2 _ => hK _ _ t2 ?_))
      clear hK K
      simp only [Act.put, List.setIfInBounds_toArray, List.set_cons_zero, List.set_cons_succ]
      refine d_value (i := 14) rfl (by kernel_rfl) (by kernel_rfl) (by kernel_rfl) rfl (fun _ _ _ h => hP _ _ _ _ _ h) (fun w9 hS => run_asgn (v := v2) rfl rfl) t2 ?_
      simp only [Act.put, List.setIfInBounds_toArray, List.set_cons_zero, List.set_cons_succ]
      refine wpAnyH_done (by kernel_rfl) ?_ _
      replace hO2 := Lib.hid hO2
      clear hS0 hg hOa
      have hR2 := Lib.hid (hR.out.keep t2 (fun q => q))
      by_cases hkc : co = k
      · obtain rfl : m = k := by omega
        subst hkc
        have hJ := Lib.hid (show FrA W2 (.slice (some ⟨gk, 0, none⟩) 0 0) ([] : List Fr) from .inr ⟨_, 0, rfl, Nat.le_refl _, fun i hi => by simp at hi⟩)
        have hd : out.drop co = [] := List.drop_of_length_le (by have := hm.out; omega)
        rw [hd] at hput
        have hroom := Lib.hid (show ((H ++ [(⟨x.f, x.t, 0, 0⟩ : Fr)]).length + ([] : List Fr).length) * 32 ≤ 140737488355328 by simp only [List.length_append, List.length_cons, List.length_nil]; omega)
        clear hR hR2 hH hO1 t1 hd hld
        go_upto_region 15 with fail
        refine wp_region_list ?_
        refine l_value rfl (run_move (v := v2) rfl rfl) ?_
        simp only [Act.put, List.setIfInBounds_toArray, List.set_cons_zero, List.set_cons_succ]
        refine l_value rfl (run_move (v := .slice (some ⟨gk, 0, none⟩) co co) rfl rfl) ?_
        simp only [Act.put, List.setIfInBounds_toArray, List.set_cons_zero, List.set_cons_succ]
        refine l_value rfl (run_move (v := .int .i64 (co : Int)) rfl rfl) ?_
        simp only [Act.put, List.setIfInBounds_toArray, List.set_cons_zero, List.set_cons_succ]
        refine l_value rfl (run_sl24e rfl rfl rfl rfl) ?_
        simp only [Act.put, List.setIfInBounds_toArray, List.set_cons_zero, List.set_cons_succ]
        refine wpList_plain rfl fun K hK => ?_
        have h1 := hO2.out
        have h2 := hJ.out
        refine wp_appKS (v := v2) (y := .slice (some ⟨gk, 0, none⟩) 0 0) (L := H ++ [⟨x.f, x.t, 0, 0⟩]) (M := []) (w0 := W) (.tmp 118) (.tmp 121) ?_ ?_ h1 ?_ h2 t2 ?_ ?_
        · rfl
        · rfl
        · rfl
        · exact hroom.out
        intro v3 W3 hO3 t3 _
        refine hK _ _ ?_
        clear hK K h1 h2
        replace hO3 := Lib.hid hO3
        simp only [Act.put, List.setIfInBounds_toArray, List.set_cons_zero, List.set_cons_succ]
        refine l_value rfl (run_asgn (v := v3) rfl rfl) ?_
        simp only [Act.put, List.setIfInBounds_toArray, List.set_cons_zero, List.set_cons_succ]
        refine wpList_nil ?_
        exact hQ.out _ _ _ _ _ _ _ _ _ _ _ _ _ _ _ _ _ _ _ _ _ _ _ _ _ _ _ (by rw [hput.out, ← hHe.out]; have := OwnK.mono hO3.out ht.size; simpa using this) (ht.trans' t3)
      · have hJ := Lib.hid (OwnK.rest hR2.out (by have := hm.out; omega) k (by have := hm.out; omega) (co - k) (by have := hm.out; omega))
        rw [← hm.out] at hJ
        have k4 : ¬ co - k = 0 := by omega
        have hroom := Lib.hid (show ((H ++ [(⟨x.f, x.t, 0, 0⟩ : Fr)]).length + (out.drop k).length) * 32 ≤ 140737488355328 by simp only [List.length_append, List.length_cons, List.length_nil]; omega)
        clear hR hR2 hH hO1 t1
        go_upto_region 15 with fail
        refine wp_region_list ?_
        refine l_value rfl (run_move (v := v2) rfl rfl) ?_
        simp only [Act.put, List.setIfInBounds_toArray, List.set_cons_zero, List.set_cons_succ]
        refine l_value rfl (run_move (v := .slice (some ⟨gk, 0, none⟩) m co) rfl rfl) ?_
        simp only [Act.put, List.setIfInBounds_toArray, List.set_cons_zero, List.set_cons_succ]
        refine l_value rfl (run_move (v := .int .i64 (k : Int)) rfl rfl) ?_
        simp only [Act.put, List.setIfInBounds_toArray, List.set_cons_zero, List.set_cons_succ]
        refine l_value rfl (run_sl24 (m := m) (c := co) k rfl rfl rfl rfl hk hlc (Ne.symm hkc)) ?_
        simp only [Act.put, List.setIfInBounds_toArray, List.set_cons_zero, List.set_cons_succ]
        refine wpList_plain rfl fun K hK => ?_
        have h1 := hO2.out
        have h2 := hJ.out
        refine wp_appKS (v := v2) (y := .slice (some ⟨gk, k * 4, none⟩) (m - k) (co - k)) (L := H ++ [⟨x.f, x.t, 0, 0⟩]) (M := out.drop k) (w0 := W) (.tmp 118) (.tmp 121) ?_ ?_ h1 ?_ h2 t2 ?_ ?_
        · rfl
        · rfl
        · rfl
        · exact hroom.out
        intro v3 W3 hO3 t3 _
        refine hK _ _ ?_
        clear hK K h1 h2
        replace hO3 := Lib.hid hO3
        simp only [Act.put, List.setIfInBounds_toArray, List.set_cons_zero, List.set_cons_succ]
        refine l_value rfl (run_asgn (v := v3) rfl rfl) ?_
        simp only [Act.put, List.setIfInBounds_toArray, List.set_cons_zero, List.set_cons_succ]
        refine wpList_nil ?_
        exact hQ.out _ _ _ _ _ _ _ _ _ _ _ _ _ _ _ _ _ _ _ _ _ _ _ _ _ _ _ (by rw [hput.out, ← hHe.out]; have := OwnK.mono hO3.out ht.size; simpa using this) (ht.trans' t3)

set_option maxRecDepth 1000000 in
set_option maxHeartbeats 6400000 in
theorem lk_add (w W : World) (g o n c i k m ck gk : Nat) (out1 : List Fr) (x : Fr) (hR : RowK W gk ck out1) (ht : Touch Nothing w W) (hgk : w.heap.size ≤ gk) (hlc : m ≤ ck) (hmx : ck ≤ maxLen) (hm : m = out1.length) (hmn : m ≤ 131072) (hi : i < n) (hin : n ≤ 65536) (hk : k < m)
    (c3 : W.cell? ⟨g, o + i * 4 + 3, none⟩ = some (.int .i64 x.l)) (hgw : g < w.heap.size) (hB : LBnd i out1) (hxl : 0 ≤ x.l ∧ x.l ≤ 65536)
    {z1 z2 z3 z4 z5 z9 z10 z11 z12 z13 z14 z15 z16 z17 z18 z19 z20 z21 z22 z23 z24 z25 z26 z27 z28 z29 z30 z31 z32 z33 z34 z35 z36 z37 z38 z39 z40 z41 z42 z43 z44 z45 z46 z47 z48 z49 z50 z51 z52 z53 z54 z55 z56 z57 z58 z59 z60 z61 z62 z63 z64 z65 z66 z67 z68 z69 z70 z71 z72 z73 z74 z75 z76 z77 z78 z79 z80 z81 z82 z83 z84 z85 z86 z87 z88 z89 z90 z91 z92 z93 z94 z95 z96 z97 z98 z99 z100 z101 z102 z103 z104 z105 z106 z107 z108 z109 z110 z111 z112 z113 z114 z115 z116 z117 z118 z119 z120 z121 z122 z123 z124 z125 z126 z127 z128 z129 z130 z131 z132 z133 z134 z135 z136 z137 z138 z139 z140 z141 z142 z143 z144 : Value} {Q : Exit → Act → World → Prop}
    (hQ : ∀ (W' : World) (y123 y124 y125 y126 y127 y128 y129 y130 y131 y132 y133 y134 y135 y136 y137 y138 y139 y140 y141 y142 y143 : Value), OwnK w W' (.slice (some ⟨gk, 0, none⟩) m ck) (radd out1 k x) → Touch Nothing w W' → Q .normal ⟨List.toArray (.slice (some ⟨g, o, none⟩) n c :: z1 :: z2 :: z3 :: z4 :: z5 :: .slice (some ⟨gk, 0, none⟩) m ck :: .int .i64 (i : Int) :: .int .i64 (k : Int) :: z9 :: z10 :: z11 :: z12 :: z13 :: z14 :: z15 :: z16 :: z17 :: z18 :: z19 :: z20 :: z21 :: z22 :: z23 :: z24 :: z25 :: z26 :: z27 :: z28 :: z29 :: z30 :: z31 :: z32 :: z33 :: z34 :: z35 :: z36 :: z37 :: z38 :: z39 :: z40 :: z41 :: z42 :: z43 :: z44 :: z45 :: z46 :: z47 :: z48 :: z49 :: z50 :: z51 :: z52 :: z53 :: z54 :: z55 :: z56 :: z57 :: z58 :: z59 :: z60 :: z61 :: z62 :: z63 :: z64 :: z65 :: z66 :: z67 :: z68 :: z69 :: z70 :: z71 :: z72 :: z73 :: z74 :: z75 :: z76 :: z77 :: z78 :: z79 :: z80 :: z81 :: z82 :: z83 :: z84 :: z85 :: z86 :: z87 :: z88 :: z89 :: z90 :: z91 :: z92 :: z93 :: z94 :: z95 :: z96 :: z97 :: z98 :: z99 :: z100 :: z101 :: z102 :: z103 :: z104 :: z105 :: z106 :: z107 :: z108 :: z109 :: z110 :: z111 :: z112 :: z113 :: z114 :: z115 :: z116 :: z117 :: z118 :: z119 :: z120 :: z121 :: z122 :: y123 :: y124 :: y125 :: y126 :: y127 :: y128 :: y129 :: y130 :: y131 :: y132 :: y133 :: y134 :: y135 :: y136 :: y137 :: y138 :: y139 :: y140 :: y141 :: y142 :: y143 :: z144 :: []), []⟩ W') :
    Code.wp Try.prog add13 Q ⟨List.toArray (.slice (some ⟨g, o, none⟩) n c :: z1 :: z2 :: z3 :: z4 :: z5 :: .slice (some ⟨gk, 0, none⟩) m ck :: .int .i64 (i : Int) :: .int .i64 (k : Int) :: z9 :: z10 :: z11 :: z12 :: z13 :: z14 :: z15 :: z16 :: z17 :: z18 :: z19 :: z20 :: z21 :: z22 :: z23 :: z24 :: z25 :: z26 :: z27 :: z28 :: z29 :: z30 :: z31 :: z32 :: z33 :: z34 :: z35 :: z36 :: z37 :: z38 :: z39 :: z40 :: z41 :: z42 :: z43 :: z44 :: z45 :: z46 :: z47 :: z48 :: z49 :: z50 :: z51 :: z52 :: z53 :: z54 :: z55 :: z56 :: z57 :: z58 :: z59 :: z60 :: z61 :: z62 :: z63 :: z64 :: z65 :: z66 :: z67 :: z68 :: z69 :: z70 :: z71 :: z72 :: z73 :: z74 :: z75 :: z76 :: z77 :: z78 :: z79 :: z80 :: z81 :: z82 :: z83 :: z84 :: z85 :: z86 :: z87 :: z88 :: z89 :: z90 :: z91 :: z92 :: z93 :: z94 :: z95 :: z96 :: z97 :: z98 :: z99 :: z100 :: z101 :: z102 :: z103 :: z104 :: z105 :: z106 :: z107 :: z108 :: z109 :: z110 :: z111 :: z112 :: z113 :: z114 :: z115 :: z116 :: z117 :: z118 :: z119 :: z120 :: z121 :: z122 :: z123 :: z124 :: z125 :: z126 :: z127 :: z128 :: z129 :: z130 :: z131 :: z132 :: z133 :: z134 :: z135 :: z136 :: z137 :: z138 :: z139 :: z140 :: z141 :: z142 :: z143 :: z144 :: []), []⟩ W := by
  conv => arg 2; whnf
  have hko : k < out1.length := by omega
  rw [radd_at out1 k x hko] at hQ
  obtain ⟨y, hy⟩ : ∃ y, y = out1[k] := ⟨_, rfl⟩
  have hyb := hB out1[k] (List.getElem_mem _)
  rw [← hy] at hQ hyb
  have c2 := hR.cell k 2 hko (by decide)
  rw [← hy] at c2
  obtain ⟨ka, kf, kt, kl⟩ := y
  obtain ⟨xa, xf, xt, xl⟩ := x
  simp only [] at hQ hyb c3 hxl
  replace c2 : W.cell? ⟨gk, k * 4 + 2, none⟩ = some (.int .i64 kt) := c2
  have f2 := hR.frz (k * 4 + 2)
  have hne : ¬ gk = g := fun q => by omega
  have R8 := hR.set k 2 hko (.int .i64 (kt + 1)) ⟨ka, kf, kt + 1, kl⟩ (by rw [← hy]; rfl) (by decide)
  have hin8 : k < (out1.set k (⟨ka, kf, kt + 1, kl⟩ : Fr)).length := by rw [List.length_set]; exact hko
  have d3 := R8.cell k 3 hin8 (by decide)
  have f3 := R8.frz (k * 4 + 3)
  rw [List.getElem_set_self] at d3
  replace d3 : (W.setCell ⟨gk, k * 4 + 2, none⟩ (.int .i64 (kt + 1))).cell? ⟨gk, k * 4 + 3, none⟩ = some (.int .i64 kl) := d3
  have t8 : Touch (fun b => b = gk) W (W.setCell ⟨gk, k * 4 + 2, none⟩ (.int .i64 (kt + 1))) := (Touch.refl (fun b => b = gk) W).setCell (p := ⟨gk, k * 4 + 2, none⟩) (fun _ => rfl) _
  have d9 := t8.cell c3 (fun q => hne q.symm)
  have R9 := RowK.set R8 k 3 hin8 (.int .i64 (kl + xl)) ⟨ka, kf, kt + 1, kl + xl⟩ (by rw [List.getElem_set_self]; rfl) (by decide)
  rw [List.set_set] at R9
  have t9 : Touch Nothing w _ := ((ht.trans t8 (fun i hi q => by omega)).trans ((Touch.refl (fun b => b = gk) (W.setCell ⟨gk, k * 4 + 2, none⟩ (.int .i64 (kt + 1)))).setCell (p := ⟨gk, k * 4 + 3, none⟩) (fun _ => rfl) (.int .i64 (kl + xl))) (fun i hi q => by omega)).drew
  have hown : OwnK w _ (.slice (some ⟨gk, 0, none⟩) m ck) (out1.set k (⟨ka, kf, kt + 1, kl + xl⟩ : Fr)) := .inr ⟨gk, ck, by rw [List.length_set, hm], R9.keep ((Touch.refl Nothing _).drew) (fun q => q), hgk, by rw [List.length_set]; omega, hmx⟩
  have k1 : (k : Int) < (m : Int) := by omega
  have k0 : (0 : Int) ≤ (k : Int) := by omega
  have i0 : (0 : Int) ≤ (i : Int) := by omega
  have i1 : (i : Int) < (n : Int) := by omega
  have w1 : IntKind.i64.wrap (kt + 1) = kt + 1 := wraps_i64 _ (by omega) (by omega)
  have w2 : IntKind.i64.wrap (kl + xl) = kl + xl := wraps_i64 _ (by omega) (by omega)
  have hall := Lib.hid (And.intro hown t9)
  replace hQ := Lib.hid hQ
  replace hy := Lib.hid hy
  replace hm := Lib.hid hm
  clear hown R8 R9 hR t8 t9 hB hin8 hyb hne c3
  go_upto_region 17 with fail
  go_region
  exact hQ.out _ _ _ _ _ _ _ _ _ _ _ _ _ _ _ _ _ _ _ _ _ _ hall.out.1 hall.out.2

end Go.Proofs.Ytkoplgpobagfoaa
