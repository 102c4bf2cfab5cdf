/-
  Layer 10: Fork of a reader.
-/
import Derived.Test.YtoegkcjclgmnbaaRd
import Derived.Deep.RegionHeld3
import Derived.Deep.RegionLaw
namespace Go.Proofs.Ytoegkcjclgmnbaa
open Go.RowKit
set_option linter.unusedVariables false
set_option linter.unusedSimpArgs false

def ForkPost (w : World) (s : St) (e : Ending) (w' : World) : Prop :=
  ∃ g' sv', e = .returned (.pointer (some ⟨g', 0, none⟩)) ∧ Rd w' g' sv' s ∧ Touch Nothing w w' ∧ w.heap.size ≤ g' ∧ ∀ k, sv'.ownBlock = some k → w.heap.size ≤ k

set_option maxRecDepth 100000 in
set_option maxHeartbeats 1600000 in
theorem fork_any {w : World} {g : Nat} {sv : Value} {s : St} (h : Rd w g sv s) :
    Calls Try.prog 17 #[.pointer (some ⟨g, 0, none⟩)] w (ForkPost w s) := by
  obtain ⟨l, at_, h, hl⟩ := h
  have c0 := h.c0
  have c1 := h.c1
  have c2 := h.c2
  have hg := lt_of_heap h.blk
  have hll := h.len
  have hsrc : ∀ w2, Touch Nothing w w2 → Src w2 sv l.length 1 (l.map byteV) := fun w2 ht =>
    ownsRow_src (ht.owns h.own fun _ _ q => q) (byteV_one l)
  replace hsrc := Lib.hid hsrc
  go_enter Try.func17, Try.ntmps17
  go_wp2_with fail
  go_region_held3 (fun w' => w'.cell? ⟨g, 0, none⟩ = some sv ∧ w'.cell? ⟨g, 1, none⟩ = some (.int .i64 at_) ∧ w'.cell? ⟨g, 2, none⟩ = some (.bool s.broken)) (first | go_keep | exact ⟨k0, k1, k2⟩)
    (first | (refine step_app u8s rfl _ _ rfl (v := .slice (some ⟨w.heap.size, 0, none⟩) 0 0) rfl (Touch.owns (F := Nothing) (Touch.drew (Touch.refl _ _)) (owns_empty w 5 1) (fun _ _ q => q)) rfl (hsrc.out _ (by repeat (first | exact Touch.refl _ _ | refine Touch.drewN ?_ _ | refine Touch.alloc ?_ _ | refine Touch.drew ?_))) (Nat.zero_add _) (List.nil_append _) (by unfold maxLen; omega) (by omega) ?_; intro v1 w1 ho hgrow hv; obtain ⟨av, cv, rfl⟩ := owns_slice ho; have ht : Touch Nothing w w1 := Touch.grown (by repeat (first | exact Touch.refl _ _ | refine Touch.drewN ?_ _ | refine Touch.alloc ?_ _ | refine Touch.drew ?_)) hgrow (fun k hk e => by have e : w.heap.size = k := Option.some.inj e; omega); have k0 := ht.cell c0 (fun q => q); have k1 := ht.cell c1 (fun q => q); have k2 := ht.cell c2 (fun q => q)))
  have hnew : ∀ k, (Value.slice av l.length cv).ownBlock = some k → w.heap.size ≤ k := fun k hk => by
    rcases hv with hv | hv <;> rw [hv] at hk
    · have : w.heap.size = k := Option.some.inj hk; omega
    · simp at hk; omega
  have hsz := ht.size
  have hlt : ∀ k, (Value.slice av l.length cv).ownBlock = some k → k < w1.heap.size := fun k hk => (ho.lt k hk).2
  go_wp2
  go_ret
  refine ⟨_, .slice av l.length cv, rfl, ⟨l, at_, ⟨heap_alloc_new w1 _, ho.alloc _, ?_, h.le, hll⟩, hl⟩, ht.alloc _, hsz, hnew⟩
  intro e
  have := hlt _ e
  omega

end Go.Proofs.Ytoegkcjclgmnbaa
