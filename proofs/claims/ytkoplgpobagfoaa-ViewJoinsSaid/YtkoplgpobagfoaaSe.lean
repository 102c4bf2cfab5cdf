/-
  symMerge, walked: two stretches of two frames at least; and whole. Printed by mkse.py.
-/
import Derived.Test.YtkoplgpobagfoaaSd
namespace Go.Proofs.Ytkoplgpobagfoaa
open Go.RowKit
set_option linter.unusedVariables false
set_option linter.unusedSimpArgs false

/-- Where the two stretches are cut: what is ahead of the cut is below what is behind it. -/
def LowL (cf : Fr → Fr → Int) (u v : List Fr) (a mid s : Nat) : Prop := ∀ x ∈ u.take (s - a), ∀ y ∈ v.drop (mid - s), ¬ cf y x < 0
def HighR (cf : Fr → Fr → Int) (u v : List Fr) (a mid r : Nat) : Prop := ∀ x ∈ u.drop (r - a), ∀ y ∈ v.take (mid - r), cf y x < 0

theorem low_step {cf : Fr → Fr → Int} (hw : Weak cf) {u v : List Fr} (su : Srd cf u) (sv : Srd cf v) {a mid h k : Nat} (hk : k < v.length) (hu : h - a < u.length) (hah : a ≤ h) (hmk : mid = h + 1 + k) (hq : ¬ cf v[k] u[h - a] < 0) : LowL cf u v a mid (h + 1) := by
  intro x hx y hy
  rw [show h + 1 - a = (h - a) + 1 by omega] at hx
  rw [show mid - (h + 1) = k by omega] at hy
  exact take_low2 hw su hu (drop_high hw sv hk hq y hy) x hx
theorem high_step {cf : Fr → Fr → Int} (hw : Weak cf) {u v : List Fr} (su : Srd cf u) (sv : Srd cf v) {a mid h k : Nat} (hk : k < v.length) (hu : h - a < u.length) (hah : a ≤ h) (hmk : mid = h + 1 + k) (hq : cf v[k] u[h - a] < 0) : HighR cf u v a mid h := by
  intro x hx y hy
  rw [show mid - h = k + 1 by omega] at hy
  exact drop_high2 hw su hu (take_low hw sv hk hq y hy) x hx

/-- The two halves, each merged, are the whole, merged. -/
theorem halves {cf : Fr → Fr → Int} (hw : Weak cf) {u0 u1 v0 v1 Z1 Z2 : List Fr} (su : Srd cf (u0 ++ u1)) (sv : Srd cf (v0 ++ v1)) (h1 : ∀ x ∈ u0, ∀ y ∈ v1, ¬ cf y x < 0) (h2 : ∀ x ∈ u1, ∀ y ∈ v0, cf y x < 0)
    (s1 : Srd cf Z1) (t1 : St cf (u0 ++ v0) Z1) (s2 : Srd cf Z2) (t2 : St cf (u1 ++ v1) Z2) : Srd cf (Z1 ++ Z2) ∧ St cf ((u0 ++ u1) ++ (v0 ++ v1)) (Z1 ++ Z2) := by
  refine ⟨s1.append s2 fun x hx y hy => ?_, ?_⟩
  · have hx2 := t1.symm.mem hw hx
    have hy2 := t2.symm.mem hw hy
    rcases List.mem_append.1 hx2 with a | a <;> rcases List.mem_append.1 hy2 with b | b
    · exact su.cross x a y b
    · exact h1 x a y b
    · exact hw.asy _ _ (h2 y b x a)
    · exact sv.cross x a y b
  · have e := ((St.refl u0).append (St.swap hw h2)).append (St.refl v1)
    have e2 := t1.append t2
    simp only [List.append_assoc] at e e2 ⊢
    exact e.trans e2

/-- The part of a code that begins with the region numbered n. -/
def headIs (n : Nat) : Code → Bool
  | .region k _ _ => k == n
  | .seq a _ => headIs n a
  | _ => false
def partAt (n : Nat) : Code → Option Code
  | .seq a b => if headIs n a = true then some (.seq a b) else match partAt n a with
    | some c => some c
    | none => partAt n b
  | .block _ c => partAt n c
  | .scope c => partAt n c
  | .loop c => partAt n c
  | .cond _ a b => match partAt n a with
    | some c => some c
    | none => partAt n b
  | _ => none
noncomputable def part55 (n : Nat) : Code := (Try.f55.body.bind (partAt n)).getD .skip

/-- What is known of the cut: numbers and lengths. -/
structure Cut (cf : Fr → Fr → Int) (n d : Nat) (A U u0 u1 v0 v1 D : List Fr) (a m b s mid en : Nat) : Prop where
  hw : Weak cf
  hnl : n ≤ 1048576
  hU : U = (u0 ++ u1) ++ (v0 ++ v1)
  la : a = A.length
  lD : n = b + D.length
  l1 : u0.length = s - a
  l2 : u1.length = m - s
  l3 : v0.length = mid - s
  l4 : v1.length = b - en
  has : a ≤ s
  hsm : s ≤ m
  hsmid : s ≤ mid
  hmen : en = m + (mid - s)
  hmide : en = mid + (m - s)
  henb : en ≤ b
  q6 : mid < b
  q7 : a < mid
  hd : b - a ≤ d
  hlow : ∀ x ∈ u0, ∀ y ∈ v1, ¬ cf y x < 0
  hhigh : ∀ x ∈ u1, ∀ y ∈ v0, cf y x < 0
  su2 : Srd cf (u0 ++ u1)
  sv2 : Srd cf (v0 ++ v1)

set_option maxRecDepth 1000000 in
set_option maxHeartbeats 6400000 in
theorem sym43 (F : Nat) (cf : Fr → Fr → Int) (g c n d : Nat) (ih : ∀ (w : World) (A u v D : List Fr) (a m b : Nat), a = A.length → m = a + u.length → b = m + v.length → n = b + D.length → 0 < u.length → 0 < v.length → b - a < d → Srd cf u → Srd cf v → RowF w g (A ++ (u ++ (v ++ D))) →
      Calls Try.prog 55 #[.slice (some ⟨g, 0, none⟩) n c, .int .i64 (a : Int), .int .i64 (m : Int), .int .i64 (b : Int), .func (.func F) #[] #[]] w (Merged cf w g A (u ++ v) D))
    (w wr : World) (A U u0 u1 v0 v1 D : List Fr) (a m b s mid nn pp en : Nat) (hC : Cut cf n d A U u0 u1 v0 v1 D a m b s mid en) (Z1 : List Fr) (hX3 : RowF wr g (A ++ (Z1 ++ (u1 ++ (v1 ++ D))))) (sZ1 : Srd cf Z1) (tZ1 : St cf (u0 ++ v0) Z1) (ht : Touch (fun k => k = g) w wr)
    {z5 z6 z7 z8 z9 z10 z11 z12 z13 z14 z15 z16 z17 u23 u25 u26 u27 u28 u29 u30 u31 u32 u33 u34 u35 u36 u37 u38 u39 u40 u41 u42 u43 u44 u45 u46 u47 u48 u49 u50 u51 u52 u53 u54 u55 u56 u57 u58 u59 u60 u61 u62 u63 u64 u65 u66 u67 u68 u69 u70 u71 u72 u73 u74 u75 u76 u77 u78 u79 u80 u81 u82 u83 u84 u85 u86 u87 u88 u89 u90 u91 u92 u93 u94 u95 u96 u97 u98 u99 u100 u101 u102 u103 u104 u105 u106 u107 u108 u109 u110 u111 u112 u113 u114 u115 u116 u117 u118 u119 u120 u121 u122 u123 u124 u125 u126 u127 u128 u129 u130 u131 u132 u133 u134 u135 u136 u137 u138 u139 u140 u141 u142 u143 u144 u145 u146 u147 u148 u149 u150 u151 u152 u153 u154 u155 u156 u157 u158 u159 u160 u161 u162 u163 u164 u165 u166 u167 u168 u169 u170 u171 u172 u173 u174 u175 u176 u177 u178 u179 u180 u181 u182 u183 u184 u185 u186 u187 u188 u189 u190 u191 u192 u193 u194 u195 u196 u197 u198 u199 u200 u201 u202 u203 u204 u205 u206 u207 u208 u209 u210 u211 u212 u213 u214 u215 u216 u217 u218 u219 : Value} :
    Code.wp Try.prog (part55 43) (bodyPost Try.prog Try.f55 (Merged cf w g A U D)) ⟨List.toArray (.slice (some ⟨g, 0, none⟩) n c :: .int .i64 (a : Int) :: .int .i64 (m : Int) :: .int .i64 (b : Int) :: .func (.func F) #[] #[] :: z5 :: z6 :: z7 :: z8 :: z9 :: z10 :: z11 :: z12 :: z13 :: z14 :: z15 :: z16 :: z17 :: .int .i64 (mid : Int) :: .int .i64 (nn : Int) :: .int .i64 (s : Int) :: .int .i64 (s : Int) :: .int .i64 (pp : Int) :: u23 :: .int .i64 (en : Int) :: u25 :: u26 :: u27 :: u28 :: u29 :: u30 :: u31 :: u32 :: u33 :: u34 :: u35 :: u36 :: u37 :: u38 :: u39 :: u40 :: u41 :: u42 :: u43 :: u44 :: u45 :: u46 :: u47 :: u48 :: u49 :: u50 :: u51 :: u52 :: u53 :: u54 :: u55 :: u56 :: u57 :: u58 :: u59 :: u60 :: u61 :: u62 :: u63 :: u64 :: u65 :: u66 :: u67 :: u68 :: u69 :: u70 :: u71 :: u72 :: u73 :: u74 :: u75 :: u76 :: u77 :: u78 :: u79 :: u80 :: u81 :: u82 :: u83 :: u84 :: u85 :: u86 :: u87 :: u88 :: u89 :: u90 :: u91 :: u92 :: u93 :: u94 :: u95 :: u96 :: u97 :: u98 :: u99 :: u100 :: u101 :: u102 :: u103 :: u104 :: u105 :: u106 :: u107 :: u108 :: u109 :: u110 :: u111 :: u112 :: u113 :: u114 :: u115 :: u116 :: u117 :: u118 :: u119 :: u120 :: u121 :: u122 :: u123 :: u124 :: u125 :: u126 :: u127 :: u128 :: u129 :: u130 :: u131 :: u132 :: u133 :: u134 :: u135 :: u136 :: u137 :: u138 :: u139 :: u140 :: u141 :: u142 :: u143 :: u144 :: u145 :: u146 :: u147 :: u148 :: u149 :: u150 :: u151 :: u152 :: u153 :: u154 :: u155 :: u156 :: u157 :: u158 :: u159 :: u160 :: u161 :: u162 :: u163 :: u164 :: u165 :: u166 :: u167 :: u168 :: u169 :: u170 :: u171 :: u172 :: u173 :: u174 :: u175 :: u176 :: u177 :: u178 :: u179 :: u180 :: u181 :: u182 :: u183 :: u184 :: u185 :: u186 :: u187 :: u188 :: u189 :: u190 :: u191 :: u192 :: u193 :: u194 :: u195 :: u196 :: u197 :: u198 :: u199 :: u200 :: u201 :: u202 :: u203 :: u204 :: u205 :: u206 :: u207 :: u208 :: u209 :: u210 :: u211 :: u212 :: u213 :: u214 :: u215 :: u216 :: u217 :: u218 :: u219 :: []), []⟩ wr := by
  obtain ⟨hw, hnl, hU, la, lD, l1, l2, l3, l4, has, hsm, hsmid, hmen, hmide, henb, q6, q7, hd, hlow, hhigh, su2, sv2⟩ := hC
  have lZ1 : Z1.length = u0.length + v0.length := by rw [← tZ1.1, List.length_append]
  have hRight : mid < en → en < b → Calls Try.prog 55 #[.slice (some ⟨g, 0, none⟩) n c, .int .i64 (mid : Int), .int .i64 (en : Int), .int .i64 (b : Int), .func (.func F) #[] #[]] wr (Merged cf wr g (A ++ Z1) (u1 ++ v1) D) := fun h1 h2 =>
    ih wr (A ++ Z1) u1 v1 D mid en b (by rw [List.length_append]; omega) (by omega) (by omega) lD (by omega) (by omega) (by omega) su2.right sv2.right (by rw [List.append_assoc]; exact hX3)
  have hNoR : ¬ (mid < en ∧ en < b) → Srd cf (u1 ++ v1) := fun h => by
    by_cases e : u1.length = 0
    · rw [List.eq_nil_of_length_eq_zero e]; exact sv2.right
    · have e2 : v1.length = 0 := by omega
      rw [List.eq_nil_of_length_eq_zero e2, List.append_nil]; exact su2.right
  have hfin : ∀ wx Z2, RowF wx g (A ++ (Z1 ++ (Z2 ++ D))) → Srd cf Z2 → St cf (u1 ++ v1) Z2 → Touch (fun k => k = g) w wx → Merged cf w g A U D (.returned (.tuple #[])) wx := fun wx Z2 h1 h2 h3 h4 => by
    have := halves hw su2 sv2 hlow hhigh sZ1 tZ1 h2 h3
    rw [← hU] at this
    exact ⟨rfl, ⟨Z1 ++ Z2, by rw [List.append_assoc]; exact h1, this.1, this.2⟩, h4⟩
  clear ih hw hnl hU la lD l1 l2 l3 l4 hd hlow hhigh su2 sv2 sZ1 tZ1 lZ1 hmen hmide
  replace hRight := Lib.hid hRight
  replace hNoR := Lib.hid hNoR
  replace hfin := Lib.hid hfin
  replace hX3 := Lib.hid hX3
  obtain ⟨c43, hc43⟩ : ∃ q, q = decide (mid < en ∧ en < b) := ⟨_, rfl⟩
  replace hc43 := Lib.hid hc43
  conv => arg 2; whnf
  go_upto_region 43 with fail
  go_cut [213] (fun v wx => v = .bool c43 ∧ wx = wr)
  case first =>
    by_cases k1 : mid < en
    · have k1i : (mid : Int) < (en : Int) := by omega
      by_cases k2 : en < b
      · have k2i : (en : Int) < (b : Int) := by omega
        obtain rfl : c43 = true := by rw [hc43.out]; exact decide_eq_true ⟨k1, k2⟩
        go_wp2
        go_meet
        exact ⟨rfl, rfl⟩
      · have k2i : ¬ (en : Int) < (b : Int) := by omega
        obtain rfl : c43 = false := by rw [hc43.out]; exact decide_eq_false (fun q => k2 q.2)
        go_wp2
        go_meet
        exact ⟨rfl, rfl⟩
    · have k1i : ¬ (mid : Int) < (en : Int) := by omega
      obtain rfl : c43 = false := by rw [hc43.out]; exact decide_eq_false (fun q => k1 q.1)
      go_wp2
      go_meet
      exact ⟨rfl, rfl⟩
  case rest =>
  obtain ⟨rfl, ew⟩ := hcut
  rw [ew]
  clear ew wc
  cases c43
  · have hno := Lib.hid (hNoR.out (of_decide_eq_false hc43.out.symm))
    clear hRight hNoR hc43
    go_wp2
    go_end0
    exact hfin.out wr (u1 ++ v1) (by rw [List.append_assoc]; exact hX3.out) hno.out (St.refl _) ht
  · have hle := hRight.out (of_decide_eq_true hc43.out.symm).1 (of_decide_eq_true hc43.out.symm).2
    replace hle := Lib.hid hle
    clear hRight hNoR hc43
    go_wp2_with (first | (go_at_call 55; refine hle.out.mono ?_; rintro r w2 ⟨rfl, hR2, t2⟩; replace hR2 := Lib.hid hR2))
    go_end0
    obtain ⟨Z2, h1, h2, h3⟩ := hR2.out
    exact hfin.out w2 Z2 (by rw [List.append_assoc] at h1; exact h1) h2 h3 (ht.trans' t2)

set_option maxRecDepth 1000000 in
set_option maxHeartbeats 6400000 in
theorem sym41 (F : Nat) (cf : Fr → Fr → Int) (g c n d : Nat) (ih : ∀ (w : World) (A u v D : List Fr) (a m b : Nat), a = A.length → m = a + u.length → b = m + v.length → n = b + D.length → 0 < u.length → 0 < v.length → b - a < d → Srd cf u → Srd cf v → RowF w g (A ++ (u ++ (v ++ D))) →
      Calls Try.prog 55 #[.slice (some ⟨g, 0, none⟩) n c, .int .i64 (a : Int), .int .i64 (m : Int), .int .i64 (b : Int), .func (.func F) #[] #[]] w (Merged cf w g A (u ++ v) D))
    (w wr : World) (A U u0 u1 v0 v1 D : List Fr) (a m b s mid nn pp en : Nat) (hC : Cut cf n d A U u0 u1 v0 v1 D a m b s mid en) (hX2 : RowF wr g (A ++ (u0 ++ (v0 ++ (u1 ++ (v1 ++ D)))))) (ht : Touch (fun k => k = g) w wr)
    {z5 z6 z7 z8 z9 z10 z11 z12 z13 z14 z15 z16 z17 u23 u25 u26 u27 u28 u29 u30 u31 u32 u33 u34 u35 u36 u37 u38 u39 u40 u41 u42 u43 u44 u45 u46 u47 u48 u49 u50 u51 u52 u53 u54 u55 u56 u57 u58 u59 u60 u61 u62 u63 u64 u65 u66 u67 u68 u69 u70 u71 u72 u73 u74 u75 u76 u77 u78 u79 u80 u81 u82 u83 u84 u85 u86 u87 u88 u89 u90 u91 u92 u93 u94 u95 u96 u97 u98 u99 u100 u101 u102 u103 u104 u105 u106 u107 u108 u109 u110 u111 u112 u113 u114 u115 u116 u117 u118 u119 u120 u121 u122 u123 u124 u125 u126 u127 u128 u129 u130 u131 u132 u133 u134 u135 u136 u137 u138 u139 u140 u141 u142 u143 u144 u145 u146 u147 u148 u149 u150 u151 u152 u153 u154 u155 u156 u157 u158 u159 u160 u161 u162 u163 u164 u165 u166 u167 u168 u169 u170 u171 u172 u173 u174 u175 u176 u177 u178 u179 u180 u181 u182 u183 u184 u185 u186 u187 u188 u189 u190 u191 u192 u193 u194 u195 u196 u197 u198 u199 u200 u201 u202 u203 u204 u205 u206 u207 u208 u209 u210 u211 u212 u213 u214 u215 u216 u217 u218 u219 : Value} :
    Code.wp Try.prog (part55 41) (bodyPost Try.prog Try.f55 (Merged cf w g A U D)) ⟨List.toArray (.slice (some ⟨g, 0, none⟩) n c :: .int .i64 (a : Int) :: .int .i64 (m : Int) :: .int .i64 (b : Int) :: .func (.func F) #[] #[] :: z5 :: z6 :: z7 :: z8 :: z9 :: z10 :: z11 :: z12 :: z13 :: z14 :: z15 :: z16 :: z17 :: .int .i64 (mid : Int) :: .int .i64 (nn : Int) :: .int .i64 (s : Int) :: .int .i64 (s : Int) :: .int .i64 (pp : Int) :: u23 :: .int .i64 (en : Int) :: u25 :: u26 :: u27 :: u28 :: u29 :: u30 :: u31 :: u32 :: u33 :: u34 :: u35 :: u36 :: u37 :: u38 :: u39 :: u40 :: u41 :: u42 :: u43 :: u44 :: u45 :: u46 :: u47 :: u48 :: u49 :: u50 :: u51 :: u52 :: u53 :: u54 :: u55 :: u56 :: u57 :: u58 :: u59 :: u60 :: u61 :: u62 :: u63 :: u64 :: u65 :: u66 :: u67 :: u68 :: u69 :: u70 :: u71 :: u72 :: u73 :: u74 :: u75 :: u76 :: u77 :: u78 :: u79 :: u80 :: u81 :: u82 :: u83 :: u84 :: u85 :: u86 :: u87 :: u88 :: u89 :: u90 :: u91 :: u92 :: u93 :: u94 :: u95 :: u96 :: u97 :: u98 :: u99 :: u100 :: u101 :: u102 :: u103 :: u104 :: u105 :: u106 :: u107 :: u108 :: u109 :: u110 :: u111 :: u112 :: u113 :: u114 :: u115 :: u116 :: u117 :: u118 :: u119 :: u120 :: u121 :: u122 :: u123 :: u124 :: u125 :: u126 :: u127 :: u128 :: u129 :: u130 :: u131 :: u132 :: u133 :: u134 :: u135 :: u136 :: u137 :: u138 :: u139 :: u140 :: u141 :: u142 :: u143 :: u144 :: u145 :: u146 :: u147 :: u148 :: u149 :: u150 :: u151 :: u152 :: u153 :: u154 :: u155 :: u156 :: u157 :: u158 :: u159 :: u160 :: u161 :: u162 :: u163 :: u164 :: u165 :: u166 :: u167 :: u168 :: u169 :: u170 :: u171 :: u172 :: u173 :: u174 :: u175 :: u176 :: u177 :: u178 :: u179 :: u180 :: u181 :: u182 :: u183 :: u184 :: u185 :: u186 :: u187 :: u188 :: u189 :: u190 :: u191 :: u192 :: u193 :: u194 :: u195 :: u196 :: u197 :: u198 :: u199 :: u200 :: u201 :: u202 :: u203 :: u204 :: u205 :: u206 :: u207 :: u208 :: u209 :: u210 :: u211 :: u212 :: u213 :: u214 :: u215 :: u216 :: u217 :: u218 :: u219 :: []), []⟩ wr := by
  have hC0 := Lib.hid hC
  have ih0 := Lib.hid ih
  obtain ⟨hw, hnl, hU, la, lD, l1, l2, l3, l4, has, hsm, hsmid, hmen, hmide, henb, q6, q7, hd, hlow, hhigh, su2, sv2⟩ := hC
  have hLeft : a < s → s < mid → Calls Try.prog 55 #[.slice (some ⟨g, 0, none⟩) n c, .int .i64 (a : Int), .int .i64 (s : Int), .int .i64 (mid : Int), .func (.func F) #[] #[]] wr (Merged cf wr g A (u0 ++ v0) (u1 ++ (v1 ++ D))) := fun h1 h2 =>
    ih wr A u0 v0 (u1 ++ (v1 ++ D)) a s mid la (by omega) (by omega) (by rw [List.length_append, List.length_append]; omega) (by omega) (by omega) (by omega) su2.left sv2.left hX2
  have hNoL : ¬ (a < s ∧ s < mid) → Srd cf (u0 ++ v0) := fun h => by
    by_cases e : u0.length = 0
    · rw [List.eq_nil_of_length_eq_zero e]; exact sv2.left
    · have e2 : v0.length = 0 := by omega
      rw [List.eq_nil_of_length_eq_zero e2, List.append_nil]; exact su2.left
  clear ih hw hnl hU la lD l1 l2 l3 l4 hd hlow hhigh su2 sv2 hmen hmide
  replace hLeft := Lib.hid hLeft
  replace hNoL := Lib.hid hNoL
  replace hX2 := Lib.hid hX2
  obtain ⟨c41, hc41⟩ : ∃ q, q = decide (a < s ∧ s < mid) := ⟨_, rfl⟩
  replace hc41 := Lib.hid hc41
  conv => arg 2; whnf
  go_upto_region 41 with fail
  go_cut [199] (fun v wx => v = .bool c41 ∧ wx = wr)
  case first =>
    by_cases k1 : a < s
    · have k1i : (a : Int) < (s : Int) := by omega
      by_cases k2 : s < mid
      · have k2i : (s : Int) < (mid : Int) := by omega
        obtain rfl : c41 = true := by rw [hc41.out]; exact decide_eq_true ⟨k1, k2⟩
        go_wp2
        go_meet
        exact ⟨rfl, rfl⟩
      · have k2i : ¬ (s : Int) < (mid : Int) := by omega
        obtain rfl : c41 = false := by rw [hc41.out]; exact decide_eq_false (fun q => k2 q.2)
        go_wp2
        go_meet
        exact ⟨rfl, rfl⟩
    · have k1i : ¬ (a : Int) < (s : Int) := by omega
      obtain rfl : c41 = false := by rw [hc41.out]; exact decide_eq_false (fun q => k1 q.1)
      go_wp2
      go_meet
      exact ⟨rfl, rfl⟩
  case rest =>
  obtain ⟨rfl, ew⟩ := hcut
  rw [ew]
  clear ew wc
  go_upto_if 199 with fail
  go_cut [] (fun wx => ∃ Z, RowF wx g (A ++ (Z ++ (u1 ++ (v1 ++ D)))) ∧ Srd cf Z ∧ St cf (u0 ++ v0) Z ∧ Touch (fun k => k = g) wr wx)
  case first =>
    cases c41
    · have hno := Lib.hid (hNoL.out (of_decide_eq_false hc41.out.symm))
      clear hLeft hNoL hc41
      go_wp2
      go_meet
      exact ⟨u0 ++ v0, by rw [List.append_assoc]; exact hX2.out, hno.out, St.refl _, Touch.refl _ _⟩
    · have hle := hLeft.out (of_decide_eq_true hc41.out.symm).1 (of_decide_eq_true hc41.out.symm).2
      replace hle := Lib.hid hle
      clear hLeft hNoL hc41
      go_wp2_with (first | (go_at_call 55; refine hle.out.mono ?_; rintro r w2 ⟨rfl, hR2, t2⟩; replace hR2 := Lib.hid hR2))
      go_meet
      obtain ⟨Z, h1, h2, h3⟩ := hR2.out
      exact ⟨Z, h1, h2, h3, t2⟩
  case rest =>
  obtain ⟨Z1, hX3, sZ1, tZ1, tx⟩ := hcut
  apply_assumption
  exact sym43 F cf g c n d ih0.out w wc A U u0 u1 v0 v1 D a m b s mid nn pp en hC0.out Z1 hX3 sZ1 tZ1 (ht.trans' tx)

set_option maxRecDepth 1000000 in
set_option maxHeartbeats 6400000 in
theorem sym39 (F : Nat) (cf : Fr → Fr → Int) (g c n d : Nat) (ih : ∀ (w : World) (A u v D : List Fr) (a m b : Nat), a = A.length → m = a + u.length → b = m + v.length → n = b + D.length → 0 < u.length → 0 < v.length → b - a < d → Srd cf u → Srd cf v → RowF w g (A ++ (u ++ (v ++ D))) →
      Calls Try.prog 55 #[.slice (some ⟨g, 0, none⟩) n c, .int .i64 (a : Int), .int .i64 (m : Int), .int .i64 (b : Int), .func (.func F) #[] #[]] w (Merged cf w g A (u ++ v) D))
    (w wr : World) (A U u0 u1 v0 v1 D : List Fr) (a m b s mid nn pp en : Nat) (hC : Cut cf n d A U u0 u1 v0 v1 D a m b s mid en) (hX1 : RowF wr g (A ++ (u0 ++ (u1 ++ (v0 ++ (v1 ++ D)))))) (ht : Touch (fun k => k = g) w wr)
    {z5 z6 z7 z8 z9 z10 z11 z12 z13 z14 z15 z16 z17 u23 u25 u26 u27 u28 u29 u30 u31 u32 u33 u34 u35 u36 u37 u38 u39 u40 u41 u42 u43 u44 u45 u46 u47 u48 u49 u50 u51 u52 u53 u54 u55 u56 u57 u58 u59 u60 u61 u62 u63 u64 u65 u66 u67 u68 u69 u70 u71 u72 u73 u74 u75 u76 u77 u78 u79 u80 u81 u82 u83 u84 u85 u86 u87 u88 u89 u90 u91 u92 u93 u94 u95 u96 u97 u98 u99 u100 u101 u102 u103 u104 u105 u106 u107 u108 u109 u110 u111 u112 u113 u114 u115 u116 u117 u118 u119 u120 u121 u122 u123 u124 u125 u126 u127 u128 u129 u130 u131 u132 u133 u134 u135 u136 u137 u138 u139 u140 u141 u142 u143 u144 u145 u146 u147 u148 u149 u150 u151 u152 u153 u154 u155 u156 u157 u158 u159 u160 u161 u162 u163 u164 u165 u166 u167 u168 u169 u170 u171 u172 u173 u174 u175 u176 u177 u178 u179 u180 u181 u182 u183 u184 u185 u186 u187 u188 u189 u190 u191 u192 u193 u194 u195 u196 u197 u198 u199 u200 u201 u202 u203 u204 u205 u206 u207 u208 u209 u210 u211 u212 u213 u214 u215 u216 u217 u218 u219 : Value} :
    Code.wp Try.prog (part55 39) (bodyPost Try.prog Try.f55 (Merged cf w g A U D)) ⟨List.toArray (.slice (some ⟨g, 0, none⟩) n c :: .int .i64 (a : Int) :: .int .i64 (m : Int) :: .int .i64 (b : Int) :: .func (.func F) #[] #[] :: z5 :: z6 :: z7 :: z8 :: z9 :: z10 :: z11 :: z12 :: z13 :: z14 :: z15 :: z16 :: z17 :: .int .i64 (mid : Int) :: .int .i64 (nn : Int) :: .int .i64 (s : Int) :: .int .i64 (s : Int) :: .int .i64 (pp : Int) :: u23 :: .int .i64 (en : Int) :: u25 :: u26 :: u27 :: u28 :: u29 :: u30 :: u31 :: u32 :: u33 :: u34 :: u35 :: u36 :: u37 :: u38 :: u39 :: u40 :: u41 :: u42 :: u43 :: u44 :: u45 :: u46 :: u47 :: u48 :: u49 :: u50 :: u51 :: u52 :: u53 :: u54 :: u55 :: u56 :: u57 :: u58 :: u59 :: u60 :: u61 :: u62 :: u63 :: u64 :: u65 :: u66 :: u67 :: u68 :: u69 :: u70 :: u71 :: u72 :: u73 :: u74 :: u75 :: u76 :: u77 :: u78 :: u79 :: u80 :: u81 :: u82 :: u83 :: u84 :: u85 :: u86 :: u87 :: u88 :: u89 :: u90 :: u91 :: u92 :: u93 :: u94 :: u95 :: u96 :: u97 :: u98 :: u99 :: u100 :: u101 :: u102 :: u103 :: u104 :: u105 :: u106 :: u107 :: u108 :: u109 :: u110 :: u111 :: u112 :: u113 :: u114 :: u115 :: u116 :: u117 :: u118 :: u119 :: u120 :: u121 :: u122 :: u123 :: u124 :: u125 :: u126 :: u127 :: u128 :: u129 :: u130 :: u131 :: u132 :: u133 :: u134 :: u135 :: u136 :: u137 :: u138 :: u139 :: u140 :: u141 :: u142 :: u143 :: u144 :: u145 :: u146 :: u147 :: u148 :: u149 :: u150 :: u151 :: u152 :: u153 :: u154 :: u155 :: u156 :: u157 :: u158 :: u159 :: u160 :: u161 :: u162 :: u163 :: u164 :: u165 :: u166 :: u167 :: u168 :: u169 :: u170 :: u171 :: u172 :: u173 :: u174 :: u175 :: u176 :: u177 :: u178 :: u179 :: u180 :: u181 :: u182 :: u183 :: u184 :: u185 :: u186 :: u187 :: u188 :: u189 :: u190 :: u191 :: u192 :: u193 :: u194 :: u195 :: u196 :: u197 :: u198 :: u199 :: u200 :: u201 :: u202 :: u203 :: u204 :: u205 :: u206 :: u207 :: u208 :: u209 :: u210 :: u211 :: u212 :: u213 :: u214 :: u215 :: u216 :: u217 :: u218 :: u219 :: []), []⟩ wr := by
  have hC0 := Lib.hid hC
  have ih0 := Lib.hid ih
  obtain ⟨hw, hnl, hU, la, lD, l1, l2, l3, l4, has, hsm, hsmid, hmen, hmide, henb, q6, q7, hd, hlow, hhigh, su2, sv2⟩ := hC
  have hRot : 0 < u1.length → 0 < v0.length → Calls Try.prog 57 #[.slice (some ⟨g, 0, none⟩) n c, .int .i64 (s : Int), .int .i64 (m : Int), .int .i64 (en : Int), .func (.func F) #[] #[]] wr fun r w' => r = .returned (.tuple #[]) ∧ RowF w' g (A ++ (u0 ++ (v0 ++ (u1 ++ (v1 ++ D))))) ∧ Touch (fun k => k = g) wr w' := fun h1 h2 => by
    have := rotate_any wr g c (.func (.func F) #[] #[]) (A ++ u0) u1 v0 (v1 ++ D) h1 h2 n s m en (by rw [List.length_append]; omega) (by rw [List.length_append]; omega) (by rw [List.length_append]; omega) (by rw [List.length_append, List.length_append]; omega) (by rw [List.append_assoc]; exact hX1) hnl
    rw [List.append_assoc] at this
    exact this
  have hNo : u1.length = 0 ∨ v0.length = 0 → RowF wr g (A ++ (u0 ++ (v0 ++ (u1 ++ (v1 ++ D))))) := fun h => by
    rcases h with h | h
    · have := List.eq_nil_of_length_eq_zero h
      rw [this] at hX1 ⊢
      exact hX1
    · have := List.eq_nil_of_length_eq_zero h
      rw [this] at hX1 ⊢
      exact hX1
  have hc1 : ¬ (s < m ∧ m < en) → u1.length = 0 ∨ v0.length = 0 := fun h => by omega
  have hc2 : (s < m ∧ m < en) → 0 < u1.length ∧ 0 < v0.length := fun h => by omega
  clear ih hw hnl hU la lD l1 l2 l3 l4 hd hlow hhigh su2 sv2 hmen hmide
  replace hRot := Lib.hid hRot
  replace hNo := Lib.hid hNo
  replace hX1 := Lib.hid hX1
  replace hc1 := Lib.hid hc1
  replace hc2 := Lib.hid hc2
  obtain ⟨c12, hc12⟩ : ∃ q, q = decide (s < m ∧ m < en) := ⟨_, rfl⟩
  replace hc12 := Lib.hid hc12
  conv => arg 2; whnf
  go_upto_region 39 with fail
  go_cut [185] (fun v wx => v = .bool c12 ∧ wx = wr)
  case first =>
    by_cases k1 : s < m
    · have k1i : (s : Int) < (m : Int) := by omega
      by_cases k2 : m < en
      · have k2i : (m : Int) < (en : Int) := by omega
        obtain rfl : c12 = true := by rw [hc12.out]; exact decide_eq_true ⟨k1, k2⟩
        go_wp2
        go_meet
        exact ⟨rfl, rfl⟩
      · have k2i : ¬ (m : Int) < (en : Int) := by omega
        obtain rfl : c12 = false := by rw [hc12.out]; exact decide_eq_false (fun q => k2 q.2)
        go_wp2
        go_meet
        exact ⟨rfl, rfl⟩
    · have k1i : ¬ (s : Int) < (m : Int) := by omega
      obtain rfl : c12 = false := by rw [hc12.out]; exact decide_eq_false (fun q => k1 q.1)
      go_wp2
      go_meet
      exact ⟨rfl, rfl⟩
  case rest =>
  obtain ⟨rfl, ew⟩ := hcut
  rw [ew]
  clear ew wc
  go_upto_if 185 with fail
  go_cut [] (fun wx => RowF wx g (A ++ (u0 ++ (v0 ++ (u1 ++ (v1 ++ D))))) ∧ Touch (fun k => k = g) wr wx)
  case first =>
    cases c12
    · have hno := hNo.out (hc1.out (of_decide_eq_false hc12.out.symm))
      replace hno := Lib.hid hno
      clear hRot hNo hc1 hc2 hc12
      go_wp2
      go_meet
      exact ⟨hno.out, Touch.refl _ _⟩
    · have hro := hRot.out (hc2.out (of_decide_eq_true hc12.out.symm)).1 (hc2.out (of_decide_eq_true hc12.out.symm)).2
      replace hro := Lib.hid hro
      clear hRot hNo hc1 hc2 hc12
      go_wp2_with (first | (go_at_call 57; refine hro.out.mono ?_; rintro r w2 ⟨rfl, hR2, t2⟩; replace hR2 := Lib.hid hR2))
      go_meet
      exact ⟨hR2.out, t2⟩
  case rest =>
  obtain ⟨hX2, tx⟩ := hcut
  apply_assumption
  exact sym41 F cf g c n d ih0.out w wc A U u0 u1 v0 v1 D a m b s mid nn pp en hC0.out hX2 (ht.trans' tx)

set_option maxRecDepth 100000 in
set_option maxHeartbeats 6400000 in
theorem sym_mid (F : Nat) (cf : Fr → Fr → Int) (hF : ∀ (args : Array Value) (w : World), (callFunc F args).run Try.prog w = .ok (.enter F args) w)
    (hcf : ∀ (w : World) (x y : Fr), Calls Try.prog F #[frV x, frV y] w fun r w' => r = .returned (.int .i64 (cf x y)) ∧ Touch Nothing w w') (hw : Weak cf)
    (g c n d : Nat) (hnl : n ≤ 1048576)
    (ih : ∀ (w : World) (A u v D : List Fr) (a m b : Nat), a = A.length → m = a + u.length → b = m + v.length → n = b + D.length → 0 < u.length → 0 < v.length → b - a < d → Srd cf u → Srd cf v → RowF w g (A ++ (u ++ (v ++ D))) →
      Calls Try.prog 55 #[.slice (some ⟨g, 0, none⟩) n c, .int .i64 (a : Int), .int .i64 (m : Int), .int .i64 (b : Int), .func (.func F) #[] #[]] w (Merged cf w g A (u ++ v) D))
    (w : World) (A u v D : List Fr) (a m b : Nat) (ha : a = A.length) (hm : m = a + u.length) (hb : b = m + v.length) (hn : n = b + D.length) (hu : 1 < u.length) (hv : 1 < v.length) (hd : b - a ≤ d) (su : Srd cf u) (sv : Srd cf v) (hR : RowF w g (A ++ (u ++ (v ++ D)))) :
    Calls Try.prog 55 #[.slice (some ⟨g, 0, none⟩) n c, .int .i64 (a : Int), .int .i64 (m : Int), .int .i64 (b : Int), .func (.func F) #[] #[]] w (Merged cf w g A (u ++ v) D) := by
  have hu0 : ∀ w', RowF w' g (A ++ (u ++ (v ++ D))) → ∀ s (hs : s < u.length), w'.rangeAt g ((a + s) * 4) (frCs u[s]) := fun w' h s hs => by
    refine row_at h ?_
    rw [List.getElem?_append_right (by omega), show a + s - A.length = s by omega, List.getElem?_append_left hs, List.getElem?_eq_getElem hs]
  have hv0 : ∀ w', RowF w' g (A ++ (u ++ (v ++ D))) → ∀ s (hs : s < v.length), w'.rangeAt g ((m + s) * 4) (frCs v[s]) := fun w' h s hs => by
    refine row_at h ?_
    rw [List.getElem?_append_right (by omega), List.getElem?_append_right (by omega), show m + s - A.length - u.length = s by omega, List.getElem?_append_left hs, List.getElem?_eq_getElem hs]
  obtain ⟨lu, hlu⟩ : ∃ lu, lu = u.length := ⟨_, rfl⟩
  obtain ⟨lv, hlv⟩ : ∃ lv, lv = v.length := ⟨_, rfl⟩
  have x0 : (m : Int) - (a : Int) = (lu : Int) := by omega
  have x00 : IntKind.i64.wrap (lu : Int) = (lu : Int) := wraps_i64 _ (by omega) (by omega)
  have x01 : ((lu : Int) == 1) = false := by simp; omega
  have x02 : ¬ (lu : Int) = 1 := by omega
  have y0 : (b : Int) - (m : Int) = (lv : Int) := by omega
  have y00 : IntKind.i64.wrap (lv : Int) = (lv : Int) := wraps_i64 _ (by omega) (by omega)
  have y01 : ((lv : Int) == 1) = false := by simp; omega
  have y02 : ¬ (lv : Int) = 1 := by omega
  obtain ⟨mid, hmid⟩ : ∃ mid, mid = (a + b) / 2 := ⟨_, rfl⟩
  have hbn : b ≤ n := by omega
  obtain ⟨z1, z2, z3, z4, z5⟩ := half_facts a b mid n (by omega) hbn hnl hmid
  obtain ⟨nn, hnn⟩ : ∃ nn, nn = mid + m := ⟨_, rfl⟩
  have z6 : (mid : Int) + (m : Int) = (nn : Int) := by omega
  have z7 : IntKind.i64.wrap (nn : Int) = (nn : Int) := wraps_i64 _ (by omega) (by omega)
  obtain ⟨pp, hpp⟩ : ∃ pp, nn = pp + 1 := ⟨nn - 1, by omega⟩
  have z8 : (nn : Int) - 1 = (pp : Int) := by omega
  have z9 : IntKind.i64.wrap (pp : Int) = (pp : Int) := wraps_i64 _ (by omega) (by omega)
  obtain ⟨s0, r0, hs0⟩ : ∃ s0 r0, (mid < m ∧ s0 + b = nn ∧ r0 = mid) ∨ (¬ mid < m ∧ s0 = a ∧ r0 = m) := by
    by_cases h : mid < m
    · exact ⟨nn - b, mid, .inl ⟨h, by omega, rfl⟩⟩
    · exact ⟨a, m, .inr ⟨h, rfl, rfl⟩⟩
  have q1 : a ≤ s0 := by omega
  have q2 : s0 ≤ r0 := by omega
  have q3 : r0 ≤ m := by omega
  have q4 : r0 ≤ mid := by omega
  have q5 : mid ≤ s0 + lv := by omega
  have hL0 : LowL cf u v a mid s0 := by
    intro x hx y hy
    rcases hs0 with ⟨h1, h2, h3⟩ | ⟨h1, h2, h3⟩
    · rw [List.drop_of_length_le (by omega)] at hy; simp at hy
    · rw [show s0 - a = 0 by omega] at hx; simp at hx
  have hH0 : HighR cf u v a mid r0 := by
    intro x hx y hy
    rcases hs0 with ⟨h1, h2, h3⟩ | ⟨h1, h2, h3⟩
    · rw [show mid - r0 = 0 by omega] at hy; simp at hy
    · rw [List.drop_of_length_le (by omega)] at hx; simp at hx
  obtain ⟨X0, hX0⟩ : ∃ X, X = A ++ (u ++ (v ++ D)) := ⟨_, rfl⟩
  rw [← hX0] at hR hu0 hv0
  have hXl : X0.length = n := by rw [hX0]; simp; omega
  have q6 : mid < b := by omega
  have q7 : a < mid := by omega
  have q8 : m ≤ b := by omega
  have q9 : a ≤ m := by omega
  replace hF := Lib.hid hF
  replace hcf := Lib.hid hcf
  replace hw := Lib.hid hw
  replace su := Lib.hid su
  replace sv := Lib.hid sv
  replace ha := Lib.hid ha
  replace hm := Lib.hid hm
  replace hb := Lib.hid hb
  replace hn := Lib.hid hn
  replace hd := Lib.hid hd
  replace ih := Lib.hid ih
  replace hR := Lib.hid hR
  replace hlu := Lib.hid hlu
  replace hlv := Lib.hid hlv
  replace hX0 := Lib.hid hX0
  replace hu0 := Lib.hid hu0
  replace hv0 := Lib.hid hv0
  replace hmid := Lib.hid hmid
  replace hnn := Lib.hid hnn
  replace hpp := Lib.hid hpp
  replace hL0 := Lib.hid hL0
  replace hH0 := Lib.hid hH0
  replace hs0 := Lib.hid hs0
  go_enter Try.func55, Try.ntmps55
  go_upto_if 140 with fail
  go_cut [20, 21] (fun sv rv wx => sv = .int .i64 (s0 : Int) ∧ rv = .int .i64 (r0 : Int) ∧ wx = w)
  case first =>
    rcases hs0.out with ⟨h1, h2, h3⟩ | ⟨h1, h2, h3⟩
    · have k1 : (mid : Int) < (m : Int) := by omega
      have k2 : (nn : Int) - (b : Int) = (s0 : Int) := by omega
      have k3 : IntKind.i64.wrap (s0 : Int) = (s0 : Int) := wraps_i64 _ (by omega) (by omega)
      replace h2 := Lib.hid h2
      subst h3
      go_wp2
      go_meet
      exact ⟨rfl, rfl, rfl⟩
    · have k1 : ¬ (mid : Int) < (m : Int) := by omega
      subst h2 h3
      go_wp2
      go_meet
      exact ⟨rfl, rfl, rfl⟩
  case rest =>
  obtain ⟨rfl, rfl, ew⟩ := hcut
  rw [ew]
  clear ew wc
  clear z1 z2 z3 z4 z5 z6 z7 z8 z9 x0 x00 x01 x02 y0 y00 y01 y02
  have z8 : (nn : Int) - 1 = (pp : Int) := by have := hpp.out; omega
  have z9 : IntKind.i64.wrap (pp : Int) = (pp : Int) := wraps_i64 _ (by omega) (by have := hpp.out; have := hnn.out; omega)
  go_wp2
  clear z8 z9
  go_loopw [20, 21, 23] (fun sv rv _ wr => ∃ s r : Nat, s0 ≤ s ∧ s ≤ r ∧ r ≤ r0 ∧ sv = .int .i64 (s : Int) ∧ rv = .int .i64 (r : Int) ∧ Hid (RowF wr g X0) ∧ Touch (fun k => k = g) w wr ∧ Hid (LowL cf u v a mid s ∧ HighR cf u v a mid r)) (fun sv rv _ _ => (intOf rv).toNat - (intOf sv).toNat)
  case atStart => exact ⟨s0, r0, Nat.le_refl _, q2, Nat.le_refl _, rfl, rfl, hR, Touch.refl _ _, Lib.hid ⟨hL0.out, hH0.out⟩⟩
  case round =>
    obtain ⟨s, r, hs, hsr, hr, rfl, rfl, hX, ht, hI⟩ := hrel
    by_cases hlt : s < r
    · have hlti : (s : Int) < (r : Int) := by omega
      obtain ⟨h, hh⟩ : ∃ h, h = (s + r) / 2 := ⟨_, rfl⟩
      obtain ⟨z1, z2, z3, z4, z5⟩ := half_facts s r h n (by omega) (by omega) hnl hh
      have hsh : s ≤ h := by omega
      have hhr : h < r := by omega
      have z6 : IntKind.i64.wrap ((h : Int) + 1) = (h : Int) + 1 := wraps_i64 _ (by omega) (by omega)
      replace hh := Lib.hid hh
      have hhu : h - a < u.length := by have := hm.out; omega
      obtain ⟨k, hk⟩ : ∃ k, mid = h + 1 + k := ⟨mid - (h + 1), by omega⟩
      have hkv : k < v.length := by have := hlv.out; omega
      obtain ⟨kk, hkk⟩ : ∃ kk, kk = m + k := ⟨_, rfl⟩
      have z7 : (pp : Int) - (h : Int) = (kk : Int) := by have := hpp.out; have := hnn.out; omega
      have hkkn : kk < n := by have := hb.out; omega
      have rx := fun (w' : World) (q : RowF w' g X0) => hu0.out w' q (h - a) hhu
      have ry := fun (w' : World) (q : RowF w' g X0) => hv0.out w' q k hkv
      rw [show a + (h - a) = h by omega] at rx
      rw [← hkk] at ry
      obtain ⟨x, hx⟩ : ∃ x, x = u[h - a] := ⟨_, rfl⟩
      obtain ⟨y, hy⟩ : ∃ y, y = v[k] := ⟨_, rfl⟩
      rw [← hx] at rx
      rw [← hy] at ry
      obtain ⟨bb, hbb⟩ : ∃ bb, bb = decide (cf y x < 0) := ⟨_, rfl⟩
      replace hbb := Lib.hid hbb
      replace hx := Lib.hid hx
      replace hy := Lib.hid hy
      replace hk := Lib.hid hk
      replace hkk := Lib.hid hkk
      go_upto_region 35 with fail
      go_cut [171] (fun v wx => v = .bool (!bb) ∧ RowF wx g X0 ∧ Touch Nothing wr wx)
      case first =>
        refine wp_region_held_drew (S := fun w' => RowF w' g X0 ∧ Touch Nothing wr w') (by kernel_rfl) ⟨hX.out, (Touch.refl Nothing wr).drew⟩ (fun hS0 => ?_)
        refine d_value (i := 0) rfl (by kernel_rfl) (by kernel_rfl) (by kernel_rfl) rfl (fun _ _ _ h => h) (fun w9 hS => run_move rfl rfl) hS0 ?_
        simp only [Act.put, List.setIfInBounds_toArray, List.set_cons_zero, List.set_cons_succ]
        refine d_value (i := 1) rfl (by kernel_rfl) (by kernel_rfl) (by kernel_rfl) rfl (fun _ _ _ h => h) (fun w9 hS => run_move rfl rfl) hS0 ?_
        simp only [Act.put, List.setIfInBounds_toArray, List.set_cons_zero, List.set_cons_succ]
        refine d_value (i := 2) rfl (by kernel_rfl) (by kernel_rfl) (by kernel_rfl) rfl (fun _ _ _ h => h) (fun w9 hS => run_move rfl rfl) hS0 ?_
        simp only [Act.put, List.setIfInBounds_toArray, List.set_cons_zero, List.set_cons_succ]
        refine d_value (i := 3) rfl (by kernel_rfl) (by kernel_rfl) (by kernel_rfl) rfl (fun _ _ _ h => h) (fun w9 hS => run_move rfl rfl) hS0 ?_
        simp only [Act.put, List.setIfInBounds_toArray, List.set_cons_zero, List.set_cons_succ]
        refine d_value (i := 4) rfl (by kernel_rfl) (by kernel_rfl) (by kernel_rfl) rfl (fun _ _ _ h => h) (fun w9 hS => run_sub ((kk : Nat) : Int) rfl rfl rfl (by omega) (by omega) (by omega)) hS0 ?_
        simp only [Act.put, List.setIfInBounds_toArray, List.set_cons_zero, List.set_cons_succ]
        refine d_value (i := 5) rfl (by kernel_rfl) (by kernel_rfl) (by kernel_rfl) rfl (fun _ _ _ h => h) (fun w9 hS => run_ia22 (kk) rfl rfl rfl rfl (by omega)) hS0 ?_
        simp only [Act.put, List.setIfInBounds_toArray, List.set_cons_zero, List.set_cons_succ]
        refine d_value (i := 6) rfl (by kernel_rfl) (by kernel_rfl) (by kernel_rfl) rfl (fun _ _ _ h => h) (fun w9 hS => run_ldF (f := y) rfl rfl (ry w9 hS.1)) hS0 ?_
        simp only [Act.put, List.setIfInBounds_toArray, List.set_cons_zero, List.set_cons_succ]
        refine d_value (i := 7) rfl (by kernel_rfl) (by kernel_rfl) (by kernel_rfl) rfl (fun _ _ _ h => h) (fun w9 hS => run_move rfl rfl) hS0 ?_
        simp only [Act.put, List.setIfInBounds_toArray, List.set_cons_zero, List.set_cons_succ]
        refine d_value (i := 8) rfl (by kernel_rfl) (by kernel_rfl) (by kernel_rfl) rfl (fun _ _ _ h => h) (fun w9 hS => run_move rfl rfl) hS0 ?_
        simp only [Act.put, List.setIfInBounds_toArray, List.set_cons_zero, List.set_cons_succ]
        refine d_value (i := 9) rfl (by kernel_rfl) (by kernel_rfl) (by kernel_rfl) rfl (fun _ _ _ h => h) (fun w9 hS => run_ia22 (h) rfl rfl rfl rfl (by omega)) hS0 ?_
        simp only [Act.put, List.setIfInBounds_toArray, List.set_cons_zero, List.set_cons_succ]
        refine d_value (i := 10) rfl (by kernel_rfl) (by kernel_rfl) (by kernel_rfl) rfl (fun _ _ _ h => h) (fun w9 hS => run_ldF (f := x) rfl rfl (rx w9 hS.1)) hS0 ?_
        simp only [Act.put, List.setIfInBounds_toArray, List.set_cons_zero, List.set_cons_succ]
        refine d_call (args := #[frV y, frV x]) (i := 11) (by kernel_rfl) rfl rfl hF.out rfl _ rfl #[] rfl rfl (hcf.out _ y x) (fun _ t => ⟨hS0.1.keep t (fun q => q), hS0.2.trans' t⟩) (fun wn tn => ?_)
        simp only [Act.put, List.setIfInBounds_toArray, List.set_cons_zero, List.set_cons_succ]
        replace hS0 : RowF wn g X0 ∧ Touch Nothing wr wn := ⟨hS0.1.keep tn (fun q => q), hS0.2.trans' tn⟩
        refine d_value (i := 12) rfl (by kernel_rfl) (by kernel_rfl) (by kernel_rfl) rfl (fun _ _ _ h => h) (fun w9 hS => run_lss bb rfl rfl rfl hbb.out.symm) hS0 ?_
        simp only [Act.put, List.setIfInBounds_toArray, List.set_cons_zero, List.set_cons_succ]
        refine d_value (i := 13) rfl (by kernel_rfl) (by kernel_rfl) (by kernel_rfl) rfl (fun _ _ _ h => h) (fun w9 hS => run_not rfl rfl) hS0 ?_
        simp only [Act.put, List.setIfInBounds_toArray, List.set_cons_zero, List.set_cons_succ]
        refine wpAnyH_done (by kernel_rfl) ?_ _
        have hh2 := Lib.hid hS0
        clear hS0 tn ht ry rx hX
        go_wp2_with fail
        go_meet
        exact ⟨rfl, hh2.out.1, hh2.out.2⟩
      case rest =>
      obtain ⟨rfl, hX4, t4⟩ := hcut
      obtain ⟨w4, ew4⟩ : ∃ v : World, v = wc := ⟨_, rfl⟩
      rw [← ew4] at hX4 t4 ⊢
      clear ew4 wc
      have ht5 : Touch (fun k => k = g) w w4 := ht.trans' (t4.mono fun _ _ q => q.elim)
      replace hX4 := Lib.hid hX4
      cases bb
      · have hI2 : Hid (LowL cf u v a mid (h + 1) ∧ HighR cf u v a mid r) := Lib.hid ⟨low_step hw.out su.out sv.out hkv hhu (by omega) hk.out (by rw [← hx.out, ← hy.out]; exact of_decide_eq_false hbb.out.symm), hI.out.2⟩
        clear hI hX t4 ht rx ry hx hy hbb
        go_wp2
        exact ⟨⟨h + 1, r, by omega, by omega, hr, by simp, rfl, hX4, ht5, hI2⟩, by simp [intOf]; omega⟩
      · have hI2 : Hid (LowL cf u v a mid s ∧ HighR cf u v a mid h) := Lib.hid ⟨hI.out.1, high_step hw.out su.out sv.out hkv hhu (by omega) hk.out (by rw [← hx.out, ← hy.out]; exact of_decide_eq_true hbb.out.symm)⟩
        clear hI hX t4 ht rx ry hx hy hbb
        go_wp2
        exact ⟨⟨s, h, hs, hsh, by omega, rfl, rfl, hX4, ht5, hI2⟩, by simp [intOf]; omega⟩
    · obtain rfl : s = r := by omega
      obtain ⟨en, hen⟩ : ∃ en, nn = s + en := ⟨nn - s, by have := hnn.out; omega⟩
      have z1 : (nn : Int) - (s : Int) = (en : Int) := by omega
      have z2 : IntKind.i64.wrap (en : Int) = (en : Int) := wraps_i64 _ (by omega) (by have := hnn.out; omega)
      have hsm : s ≤ m := by omega
      have hsmid : s ≤ mid := by omega
      have hmen : en = m + (mid - s) := by have := hnn.out; omega
      have hmide : en = mid + (m - s) := by omega
      have henb : en ≤ b := by have := hb.out; have := hlv.out; omega
      replace hen := Lib.hid hen
      obtain ⟨u0, hu0e⟩ : ∃ l, l = u.take (s - a) := ⟨_, rfl⟩
      obtain ⟨u1, hu1e⟩ : ∃ l, l = u.drop (s - a) := ⟨_, rfl⟩
      obtain ⟨v0, hv0e⟩ : ∃ l, l = v.take (mid - s) := ⟨_, rfl⟩
      obtain ⟨v1, hv1e⟩ : ∃ l, l = v.drop (mid - s) := ⟨_, rfl⟩
      have eu : u = u0 ++ u1 := by rw [hu0e, hu1e, List.take_append_drop]
      have ev : v = v0 ++ v1 := by rw [hv0e, hv1e, List.take_append_drop]
      have l1 : u0.length = s - a := by rw [hu0e, List.length_take]; have := hm.out; omega
      have l2 : u1.length = m - s := by rw [hu1e, List.length_drop]; have := hm.out; omega
      have l3 : v0.length = mid - s := by rw [hv0e, List.length_take]; have := hb.out; have := hlv.out; omega
      have l4 : v1.length = b - en := by rw [hv1e, List.length_drop]; have := hb.out; omega
      have hlow : ∀ x ∈ u0, ∀ y ∈ v1, ¬ cf y x < 0 := by rw [hu0e, hv1e]; exact hI.out.1
      have hhigh : ∀ x ∈ u1, ∀ y ∈ v0, cf y x < 0 := by rw [hu1e, hv0e]; exact hI.out.2
      have su2 := su.out
      have sv2 := sv.out
      rw [eu] at su2
      rw [ev] at sv2
      have hXX : X0 = A ++ (u0 ++ (u1 ++ (v0 ++ (v1 ++ D)))) := by rw [hX0.out, eu, ev]; simp only [List.append_assoc]
      have hX1 : RowF wr g (A ++ (u0 ++ (u1 ++ (v0 ++ (v1 ++ D))))) := by rw [← hXX]; exact hX.out
      have la := ha.out
      have lD : n = b + D.length := hn.out
      have has : a ≤ s := by omega
      clear hX hI hu0 hv0 hL0 hH0 hR su sv hXl hX0 hXX hu0e hu1e hv0e hv1e hu hv hs hr q5
      replace ha := Lib.hid ha.out
      -- behind the loop
      have hU : u ++ v = (u0 ++ u1) ++ (v0 ++ v1) := by rw [← eu, ← ev]
      have hC : Cut cf n d A (u ++ v) u0 u1 v0 v1 D a m b s mid en := ⟨hw.out, hnl, hU, la, lD, l1, l2, l3, l4, has, hsm, hsmid, hmen, hmide, henb, q6, q7, hd.out, hlow, hhigh, su2, sv2⟩
      replace hC := Lib.hid hC
      replace hX1 := Lib.hid hX1
      clear hU la lD l1 l2 l3 l4 hmen hmide hlow hhigh su2 sv2 eu ev
      go_upto_region 38 with fail
      go_cut [24] (fun v wx => v = .int .i64 (en : Int) ∧ wx = wr)
      case first =>
        go_wp2
        go_meet
        exact ⟨rfl, rfl⟩
      case rest =>
      obtain ⟨rfl, ew⟩ := hcut
      rw [ew]
      clear ew wc
      apply_assumption
      exact sym39 F cf g c n d ih.out w wr A (u ++ v) u0 u1 v0 v1 D a m b s mid nn pp en hC.out hX1.out ht

end Go.Proofs.Ytkoplgpobagfoaa
