/-
  The law ViewBack, walked.
-/
import Derived.Test.YtkoplgpobagfoaaLr
import Derived.Test.YtkoplgpobagfoaaBk
import Derived.Test.YtkoplgpobagfoaaFrs
namespace Go.Proofs.Ytkoplgpobagfoaa
open Go.RowKit
set_option linter.unusedVariables false
set_option linter.unusedSimpArgs false

/-- The second half: what is decoded is encoded as just those bytes. -/
def Back2 (w : World) (s : ByteArray) (F : List Fr) (e : Int) : Prop :=
  (e ≠ 0 → F = []) ∧ (e = 0 → ∀ w' p c, FrSl w' p c F → Calls Try.prog 23 #[.slice p F.length c] w' fun r w'' => r = .returned (.tuple #[.string s, .int .i64 0]) ∧ Touch Nothing w' w'')

theorem back2 (w : World) (s : ByteArray) : Back2 w s (decR s).1 (decR s).2 := by
  refine ⟨dec_no s, fun h w' p c hs => ?_⟩
  have := Encode_sl w' p c _ hs
  rw [enc_dec s h] at this
  exact this

set_option maxRecDepth 100000 in
set_option maxHeartbeats 1600000 in
theorem viewBack_walk (w : World) (p : Option Addr) (c : Nat) (L : List Fr) (h : FrSl w p c L) (s : ByteArray) (hs : s.size ≤ 1048576) :
    Calls Try.prog 9 #[.slice p L.length c, .string s] w fun r w' => r = .returned (.bool true) ∧ Touch Nothing w w' := by
  have hW := Lib.hid (fun w => works_any w)
  have hE := fun w' (ht : Touch Nothing w w') => Encode_sl w' p c L (h.keep ht (fun _ _ q => q))
  have hD2 := fun w => Decode_any w s hs
  have hB2 := back2 w s
  obtain ⟨⟨F, e⟩, hF⟩ : ∃ x, x = decR s := ⟨_, rfl⟩
  rw [← hF] at hD2 hB2
  simp only [] at hB2
  unfold DecPost at hD2
  simp only [] at hD2
  clear hF
  have ss : (s.toList == s.toList) = true := tl_true rfl
  by_cases hok : (chkR L).2 = 0
  · have hlen := chk_len L hok
    have hsz := encS_size L
    have he : encR L = (encL L, 0) := by unfold encR; rw [if_pos hok]
    rw [he] at hE
    have hD1 := fun w => Decode_any w (encS L) (by rw [encS_size]; omega)
    rw [dec_enc L hok] at hD1
    unfold DecPost at hD1
    simp only [] at hD1 hE
    have hS := fun w q d (h1 : FrSl w q d L) (h2 : FrSl w p c L) => same_any w q p d c L L h1 h2 (by omega) true (by simp)
    obtain ⟨b, hb⟩ : ∃ b, b = encS L := ⟨_, rfl⟩
    have hE : ∀ w', Touch Nothing w w' → Calls Try.prog 23 #[.slice p L.length c] w' fun r w'' => r = .returned (.tuple #[.string b, .int .i64 0]) ∧ Touch Nothing w' w'' := by
      rw [hb]; exact hE
    rw [← hb] at hD1 hsz
    have e1 : (b.size : Int) = 16 * (L.length : Int) := by omega
    have e2 : IntKind.i64.wrap (16 * (L.length : Int)) = 16 * (L.length : Int) := by rw [IntKind.wrap_i64]; omega
    obtain ⟨n, hn⟩ : ∃ n, n = L.length := ⟨_, rfl⟩
    rw [← hn] at hE hD1 hS e1 e2 ⊢
    replace hE := Lib.hid hE
    replace hD1 := Lib.hid hD1
    replace hS := Lib.hid hS
    replace h := Lib.hid h
    clear hok hlen he hb hn hsz
    by_cases h0 : e = 0
    · have hE2 := hB2.2 h0
      subst h0
      obtain ⟨m, hm⟩ : ∃ m, m = F.length := ⟨_, rfl⟩
      rw [← hm] at hE2 hD2
      replace hE2 := Lib.hid hE2
      replace hD2 := Lib.hid hD2
      clear hB2 hm
      go_enter Try.func9, Try.ntmps9
      go_wp2_with (first
        | (go_at_call 17; refine (hW.out _).mono ?_; rintro r w1 ⟨rfl, t1⟩; replace t1 := Lib.hid t1)
        | (go_at_call_of 23 (Value.slice p n c); refine (hE.out _ t1.out).mono ?_; rintro r w2 ⟨rfl, t2⟩; have T2 := Lib.hid (t1.out.trans' t2); clear t2)
        | (go_at_call_of 18 (Value.string b); refine (hD1.out _).mono ?_; rintro r w3 ⟨q, d, rfl, hq, t3⟩; have T3 := Lib.hid (T2.out.trans' t3); replace hq := Lib.hid hq; clear t3)
        | (go_at_call 20; refine (hS.out _ q d hq.out (h.out.keep T3.out (fun _ _ q => q))).mono ?_; rintro r w4 ⟨rfl, t4⟩; have T4 := Lib.hid (T3.out.trans' t4); clear t4)
        | (go_at_call_of 18 (Value.string s); refine (hD2.out _).mono ?_; rintro r w5 ⟨q2, d2, rfl, hq2, t5⟩; have T5 := Lib.hid (T4.out.trans' t5); replace hq2 := Lib.hid hq2; clear t5)
        | (go_at_call_of 23 (Value.slice q2 m d2); refine (hE2.out _ q2 d2 hq2.out).mono ?_; rintro r w6 ⟨rfl, t6⟩; have T6 := Lib.hid (T5.out.trans' t6); clear t6))
      go_ret
      exact ⟨rfl, T6.out⟩
    · have hF := hB2.1 h0
      subst hF
      have z1 : (e == 0) = false := by simp [h0]
      have z2 : (e != 0) = true := by simp [h0]
      simp only [List.length_nil] at hD2
      replace hD2 := Lib.hid hD2
      clear hB2
      go_enter Try.func9, Try.ntmps9
      go_wp2_with (first
        | (go_at_call 17; refine (hW.out _).mono ?_; rintro r w1 ⟨rfl, t1⟩; replace t1 := Lib.hid t1)
        | (go_at_call_of 23 (Value.slice p n c); refine (hE.out _ t1.out).mono ?_; rintro r w2 ⟨rfl, t2⟩; have T2 := Lib.hid (t1.out.trans' t2); clear t2)
        | (go_at_call_of 18 (Value.string b); refine (hD1.out _).mono ?_; rintro r w3 ⟨q, d, rfl, hq, t3⟩; have T3 := Lib.hid (T2.out.trans' t3); replace hq := Lib.hid hq; clear t3)
        | (go_at_call 20; refine (hS.out _ q d hq.out (h.out.keep T3.out (fun _ _ q => q))).mono ?_; rintro r w4 ⟨rfl, t4⟩; have T4 := Lib.hid (T3.out.trans' t4); clear t4)
        | (go_at_call_of 18 (Value.string s); refine (hD2.out _).mono ?_; rintro r w5 ⟨q2, d2, rfl, hq2, t5⟩; have T5 := Lib.hid (T4.out.trans' t5); replace hq2 := Lib.hid hq2; clear t5))
      go_ret
      exact ⟨rfl, T5.out⟩
  · obtain ⟨x, hx⟩ : ∃ x, x = (chkR L).2 := ⟨_, rfl⟩
    have he : encR L = ([], (chkR L).2) := by unfold encR; rw [if_neg hok]
    rw [he, ← hx] at hE
    rw [← hx] at hok
    simp only [] at hE
    have hE : ∀ w', Touch Nothing w w' → Calls Try.prog 23 #[.slice p L.length c] w' fun r w'' => r = .returned (.tuple #[.string { data := #[] }, .int .i64 x]) ∧ Touch Nothing w' w'' := hE
    obtain ⟨n, hn⟩ : ∃ n, n = L.length := ⟨_, rfl⟩
    rw [← hn] at hE ⊢
    have x1 : (x == 0) = false := by simp [hok]
    have x2 : (x != 0) = true := by simp [hok]
    replace hE := Lib.hid hE
    replace h := Lib.hid h
    clear he hx hn
    by_cases h0 : e = 0
    · have hE2 := hB2.2 h0
      subst h0
      obtain ⟨m, hm⟩ : ∃ m, m = F.length := ⟨_, rfl⟩
      rw [← hm] at hE2 hD2
      replace hE2 := Lib.hid hE2
      replace hD2 := Lib.hid hD2
      clear hB2 hm
      go_enter Try.func9, Try.ntmps9
      go_wp2_with (first
        | (go_at_call 17; refine (hW.out _).mono ?_; rintro r w1 ⟨rfl, t1⟩; replace t1 := Lib.hid t1)
        | (go_at_call_of 23 (Value.slice p n c); refine (hE.out _ t1.out).mono ?_; rintro r w2 ⟨rfl, t2⟩; have T2 := Lib.hid (t1.out.trans' t2); clear t2)
        | (go_at_call_of 18 (Value.string s); refine (hD2.out _).mono ?_; rintro r w5 ⟨q2, d2, rfl, hq2, t5⟩; have T5 := Lib.hid (T2.out.trans' t5); replace hq2 := Lib.hid hq2; clear t5)
        | (go_at_call_of 23 (Value.slice q2 m d2); refine (hE2.out _ q2 d2 hq2.out).mono ?_; rintro r w6 ⟨rfl, t6⟩; have T6 := Lib.hid (T5.out.trans' t6); clear t6))
      go_ret
      exact ⟨rfl, T6.out⟩
    · have hF := hB2.1 h0
      subst hF
      have z1 : (e == 0) = false := by simp [h0]
      have z2 : (e != 0) = true := by simp [h0]
      simp only [List.length_nil] at hD2
      replace hD2 := Lib.hid hD2
      clear hB2
      go_enter Try.func9, Try.ntmps9
      go_wp2_with (first
        | (go_at_call 17; refine (hW.out _).mono ?_; rintro r w1 ⟨rfl, t1⟩; replace t1 := Lib.hid t1)
        | (go_at_call_of 23 (Value.slice p n c); refine (hE.out _ t1.out).mono ?_; rintro r w2 ⟨rfl, t2⟩; have T2 := Lib.hid (t1.out.trans' t2); clear t2)
        | (go_at_call_of 18 (Value.string s); refine (hD2.out _).mono ?_; rintro r w5 ⟨q2, d2, rfl, hq2, t5⟩; have T5 := Lib.hid (T2.out.trans' t5); replace hq2 := Lib.hid hq2; clear t5))
      go_ret
      exact ⟨rfl, T5.out⟩

theorem ViewBack_walk (w : World) (a : Option Addr) (c : Nat) (L : List Fr) (h : FrA w (.slice a L.length c) L) (hz : ∀ x ∈ L, x.inR) (hl : L.length * 32 ≤ 140737488351232) (s : ByteArray) (hs : s.size ≤ 140737488351232) (hb : s.size ≤ 1048576) :
    Calls Try.prog 9 #[.slice a L.length c, .string s] w fun r w' => r = .returned (.bool true) ∧ Below w.heap.size w w' := by
  obtain ⟨p, d, e, hsl⟩ := h.sl
  cases e
  exact (viewBack_walk w a c L hsl s hb).mono fun r w' q => ⟨q.1, q.2.toBelow0 fun _ _ q => q⟩

end Go.Proofs.Ytkoplgpobagfoaa
