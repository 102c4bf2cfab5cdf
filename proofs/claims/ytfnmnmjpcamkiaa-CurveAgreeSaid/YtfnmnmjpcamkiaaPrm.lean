/-
  Primes: Fermat, Pocklington; 2^255 - 19 is a prime. No program in sight.
-/
namespace Go.Proofs.Ytfnmnmjpcamkiaa

def Prm (p : Nat) : Prop := 2 ≤ p ∧ ∀ m, m ∣ p → m = 1 ∨ m = p

theorem Prm.cop {p a : Nat} (h : Prm p) (ha : ¬ p ∣ a) : Nat.Coprime p a := by
  rcases h.2 (Nat.gcd p a) (Nat.gcd_dvd_left p a) with e | e
  · exact e
  · exact absurd (by rw [← e]; exact Nat.gcd_dvd_right p a) ha

theorem Prm.mul {p a b : Nat} (h : Prm p) (hd : p ∣ a * b) : p ∣ a ∨ p ∣ b := by
  by_cases ha : p ∣ a
  · exact .inl ha
  · exact .inr ((h.cop ha).dvd_of_dvd_mul_left hd)

def prod : List Nat → Nat
  | [] => 1
  | x :: r => x * prod r

theorem prod_perm {a b : List Nat} (h : a.Perm b) : prod a = prod b := by
  induction h with
  | nil => rfl
  | cons x _ ih => simp [prod, ih]
  | swap x y l => simp only [prod]; rw [Nat.mul_left_comm]
  | trans _ _ i1 i2 => exact i1.trans i2

theorem perm_of {a b : List Nat} (ha : a.Nodup) (hs : ∀ x ∈ a, x ∈ b) (hl : b.length ≤ a.length) : a.Perm b := by
  induction a generalizing b with
  | nil => have : b = [] := List.eq_nil_of_length_eq_zero (by simpa using hl)
           subst this; exact .nil
  | cons x r ih =>
    have hx := hs x (List.mem_cons_self ..)
    have hp := List.perm_cons_erase hx
    refine List.Perm.trans (List.Perm.cons x (ih (List.nodup_cons.1 ha).2 (fun y hy => ?_) ?_)) hp.symm
    · have hne : y ≠ x := fun e => (List.nodup_cons.1 ha).1 (e ▸ hy)
      exact (List.mem_erase_of_ne hne).2 (hs y (List.mem_cons_of_mem _ hy))
    · rw [List.length_erase_of_mem hx]
      simp at hl; omega

theorem prod_map (a p : Nat) (l : List Nat) : prod (l.map fun i => a * i % p) % p = a ^ l.length * prod l % p := by
  induction l with
  | nil => simp [prod]
  | cons x r ih =>
    simp only [List.map_cons, prod, List.length_cons]
    rw [Nat.mul_mod, ih, Nat.mod_mod, ← Nat.mul_mod]
    congr 1
    rw [Nat.pow_succ]
    simp [Nat.mul_comm, Nat.mul_left_comm, Nat.mul_assoc]

theorem prod_not {p : Nat} (h : Prm p) (l : List Nat) (hl : ∀ x ∈ l, ¬ p ∣ x) : ¬ p ∣ prod l := by
  induction l with
  | nil => intro hd; have h1 := h.1; have := Nat.le_of_dvd (show 0 < 1 by decide) (show p ∣ 1 from hd); omega
  | cons x r ih =>
    intro hd
    rcases h.mul hd with q | q
    · exact hl x (List.mem_cons_self ..) q
    · exact ih (fun y hy => hl y (List.mem_cons_of_mem _ hy)) q

theorem nodup_map {α β : Type} {f : α → β} {l : List α} (hl : l.Nodup) (hf : ∀ x ∈ l, ∀ y ∈ l, f x = f y → x = y) : (l.map f).Nodup := by
  induction l with
  | nil => simp
  | cons x r ih =>
    rw [List.map_cons, List.nodup_cons]
    obtain ⟨h1, h2⟩ := List.nodup_cons.1 hl
    refine ⟨fun hm => ?_, ih h2 fun a ha b hb => hf a (List.mem_cons_of_mem _ ha) b (List.mem_cons_of_mem _ hb)⟩
    obtain ⟨y, hy, e⟩ := List.mem_map.1 hm
    have := hf y (List.mem_cons_of_mem _ hy) x (List.mem_cons_self ..) e
    exact h1 (this ▸ hy)

theorem sub_dvd {p a b : Nat} (h : a % p = b % p) : p ∣ a - b := Nat.dvd_of_mod_eq_zero (Nat.sub_mod_eq_zero_of_mod_eq h)

theorem fermat {p a : Nat} (h : Prm p) (ha : ¬ p ∣ a) : a ^ (p - 1) % p = 1 := by
  have hp := h.1
  let L := (List.range (p - 1)).map (· + 1)
  have hL : ∀ x, x ∈ L ↔ 1 ≤ x ∧ x < p := by
    intro x
    simp only [L, List.mem_map, List.mem_range]
    constructor
    · rintro ⟨y, hy, rfl⟩; omega
    · rintro ⟨h1, h2⟩; exact ⟨x - 1, by omega, by omega⟩
  have hnd : L.Nodup := nodup_map List.nodup_range fun x _ y _ e => by omega
  have hlen : L.length = p - 1 := by simp [L]
  have hno : ∀ x, 1 ≤ x → x < p → ¬ p ∣ x := fun x h1 h2 hd => by have := Nat.le_of_dvd h1 hd; omega
  have hinj : ∀ x ∈ L, ∀ y ∈ L, a * x % p = a * y % p → x = y := by
    have key : ∀ x y, 1 ≤ x → x < p → 1 ≤ y → y < p → y ≤ x → a * x % p = a * y % p → x = y := by
      intro x y h1 h2 h3 h4 hle e
      have hd := sub_dvd e
      rw [← Nat.mul_sub] at hd
      rcases h.mul hd with q | q
      · exact absurd q ha
      · by_cases e0 : x - y = 0
        · omega
        · exact absurd q (hno _ (by omega) (by omega))
    intro x hx y hy e
    obtain ⟨h1, h2⟩ := (hL x).1 hx
    obtain ⟨h3, h4⟩ := (hL y).1 hy
    rcases Nat.le_total y x with q | q
    · exact key x y h1 h2 h3 h4 q e
    · exact (key y x h3 h4 h1 h2 q e.symm).symm
  have hperm : (L.map fun i => a * i % p).Perm L := by
    refine perm_of (nodup_map hnd hinj) (fun x hx => ?_) (by simp)
    obtain ⟨y, hy, rfl⟩ := List.mem_map.1 hx
    obtain ⟨h1, h2⟩ := (hL y).1 hy
    refine (hL _).2 ⟨?_, Nat.mod_lt _ (by omega)⟩
    rcases Nat.eq_zero_or_pos (a * y % p) with q | q
    · rcases h.mul (Nat.dvd_of_mod_eq_zero q) with q | q
      · exact absurd q ha
      · exact absurd q (hno y h1 h2)
    · exact q
  have e1 := prod_map a p L
  rw [prod_perm hperm, hlen] at e1
  have hPn : ¬ p ∣ prod L := prod_not h L fun x hx => hno x ((hL x).1 hx).1 ((hL x).1 hx).2
  have hd : p ∣ prod L * (a ^ (p - 1) - 1) := by
    have := sub_dvd e1.symm
    rw [Nat.mul_sub, Nat.mul_one, Nat.mul_comm (prod L)]
    exact this
  rcases h.mul hd with q | q
  · exact absurd q hPn
  · have hpos : 1 ≤ a ^ (p - 1) := Nat.pos_of_ne_zero fun e => by
      have : a = 0 := by
        rcases Nat.eq_zero_or_pos a with q | q
        · exact q
        · have := Nat.pow_pos (n := p - 1) q; omega
      exact ha (this ▸ Nat.dvd_zero p)
    obtain ⟨c, hc⟩ := q
    have : a ^ (p - 1) = 1 + p * c := by omega
    rw [this, Nat.add_mul_mod_self_left]
    exact Nat.mod_eq_of_lt (by omega)

/-- A power modulo m, by the bits of the exponent. -/
def pw : Nat → Nat → Nat → Nat → Nat
  | 0, _, _, m => 1 % m
  | f + 1, b, e, m => if e = 0 then 1 % m else if e % 2 = 1 then b * pw f (b * b % m) (e / 2) m % m else pw f (b * b % m) (e / 2) m

theorem pw_eq : ∀ (f b e m : Nat), e < 2 ^ f → pw f b e m = b ^ e % m
  | 0, b, e, m, h => by have : e = 0 := by simpa using h
                        subst this; simp [pw]
  | f + 1, b, e, m, h => by
    unfold pw
    have ih := pw_eq f (b * b % m) (e / 2) m (by rw [Nat.pow_succ] at h; omega)
    split
    · rename_i he; subst he; simp
    · have e2 : (b * b % m) ^ (e / 2) % m = b ^ (2 * (e / 2)) % m := by
        rw [Nat.pow_mod (b * b % m), Nat.mod_mod, ← Nat.pow_mod, ← Nat.pow_two, ← Nat.pow_mul]
      split
      · rename_i h1
        rw [ih, e2, Nat.mul_mod_mod, ← Nat.pow_succ', show (2 * (e / 2)).succ = e by omega]
      · rename_i h1
        rw [ih, e2, show 2 * (e / 2) = e by omega]

theorem pow_gcd_one {r b : Nat} (hr : 2 ≤ r) (m n : Nat) (h1 : b ^ m % r = 1) (h2 : b ^ n % r = 1) : b ^ (Nat.gcd m n) % r = 1 := by
  induction m, n using Nat.gcd.induction with
  | H0 n => simpa using h2
  | H1 m n hm ih =>
    rw [Nat.gcd_rec]
    refine ih ?_ h1
    have e : n = m * (n / m) + n % m := (Nat.div_add_mod n m).symm
    rw [e, Nat.pow_add, Nat.pow_mul, Nat.mul_mod, Nat.pow_mod (b ^ m), h1, Nat.one_pow] at h2
    have : (1 % r * (b ^ (n % m) % r)) % r = b ^ (n % m) % r := by rw [Nat.mod_eq_of_lt (show 1 < r by omega), Nat.one_mul, Nat.mod_mod]
    rw [this] at h2
    exact h2

/-- Every number from 2 on has a prime that divides it. -/
theorem prime_div : ∀ (n : Nat), 2 ≤ n → ∃ r, Prm r ∧ r ∣ n := by
  intro n
  induction n using Nat.strongRecOn with
  | ind n ih =>
    intro hn
    by_cases hp : Prm n
    · exact ⟨n, hp, Nat.dvd_refl n⟩
    · have : ∃ m, m ∣ n ∧ m ≠ 1 ∧ m ≠ n := by
        apply Classical.byContradiction
        intro hno
        exact hp ⟨hn, fun m hm => by
          by_cases e1 : m = 1
          · exact .inl e1
          · by_cases e2 : m = n
            · exact .inr e2
            · exact absurd ⟨m, hm, e1, e2⟩ hno⟩
      obtain ⟨m, hm, h1, h2⟩ := this
      have hle := Nat.le_of_dvd (by omega) hm
      have h0 : m ≠ 0 := fun e => by subst e; have := Nat.eq_zero_of_zero_dvd hm; omega
      obtain ⟨r, hr, hd⟩ := ih m (by omega) (by omega)
      exact ⟨r, hr, Nat.dvd_trans hd hm⟩

theorem pock_div {N q R a : Nat} (hq : Prm q) (hN : N = q * R + 1) (hR : 1 ≤ R) (h1 : a ^ (N - 1) % N = 1) (h2 : Nat.gcd (a ^ R % N + (N - 1)) N = 1) : ∀ r, Prm r → r ∣ N → q ∣ r - 1 := by
  have hq2 := hq.1
  have hN2 : 2 ≤ N := by
    have : 1 ≤ q * R := Nat.mul_le_mul (by omega : 1 ≤ q) hR
    omega
  intro r hr hd
  have hr2 := hr.1
  have hmod : ∀ x y : Nat, x % N = y % N → x % r = y % r := fun x y e => by
    rw [← Nat.mod_mod_of_dvd x hd, e, Nat.mod_mod_of_dvd y hd]
  have hb1 : (a ^ R) ^ q % r = 1 := by
    have e : N - 1 = R * q := by rw [hN, Nat.mul_comm]; simp
    rw [e, Nat.pow_mul] at h1
    have := hmod _ 1 (by rw [h1, Nat.mod_eq_of_lt (by omega)])
    rw [this, Nat.mod_eq_of_lt (by omega)]
  have hnd : ¬ r ∣ a ^ R := fun hdv => by
    have e0 : (a ^ R) ^ q % r = 0 := by
      rw [Nat.pow_mod, Nat.mod_eq_zero_of_dvd hdv, Nat.zero_pow (by omega), Nat.zero_mod]
    omega
  have hf := fermat hr hnd
  have hg := pow_gcd_one hr2 q (r - 1) hb1 hf
  rcases hq.2 _ (Nat.gcd_dvd_left q (r - 1)) with e | e
  · rw [e, Nat.pow_one] at hg
    exfalso
    have hd1 : r ∣ a ^ R % N + (N - 1) := by
      have e1 : (a ^ R % N) % r = 1 % r := by rw [Nat.mod_mod_of_dvd _ hd, hg, Nat.mod_eq_of_lt (by omega)]
      apply Nat.dvd_of_mod_eq_zero
      rw [Nat.add_mod, e1, ← Nat.add_mod, show 1 + (N - 1) = N by omega]
      exact Nat.mod_eq_zero_of_dvd hd
    have := Nat.dvd_gcd hd1 hd
    rw [h2] at this
    have := Nat.le_of_dvd (by decide) this
    omega
  · rw [← e]; exact Nat.gcd_dvd_right q (r - 1)

theorem prm_of {N F : Nat} (hN : 2 ≤ N) (hbig : N < (F + 1) * (F + 1)) (hk : ∀ r, Prm r → r ∣ N → F ∣ r - 1) : Prm N := by
  have key : ∀ r, Prm r → r ∣ N → F + 1 ≤ r := fun r hr hd => by
    have := hr.1
    have := Nat.le_of_dvd (by omega) (hk r hr hd)
    omega
  refine ⟨hN, fun m hm => ?_⟩
  by_cases e1 : m = 1
  · exact .inl e1
  · right
    obtain ⟨k, hk⟩ := hm
    apply Classical.byContradiction
    intro hmn
    have hk1 : k ≠ 1 := fun e => by subst e; omega
    have hm0 : m ≠ 0 := fun e => by subst e; simp at hk; omega
    have hk0 : k ≠ 0 := fun e => by subst e; simp at hk; omega
    obtain ⟨r, hr, hrd⟩ := prime_div m (by omega)
    obtain ⟨s, hs, hsd⟩ := prime_div k (by omega)
    have k1 := key r hr (Nat.dvd_trans hrd ⟨k, hk⟩)
    have k2 := key s hs (Nat.dvd_trans hsd ⟨m, by rw [hk, Nat.mul_comm]⟩)
    have l1 := Nat.le_of_dvd (by omega) hrd
    have l2 := Nat.le_of_dvd (by omega) hsd
    have : (F + 1) * (F + 1) ≤ m * k := Nat.mul_le_mul (by omega) (by omega)
    omega

theorem pock1 {N q R a : Nat} (hq : Prm q) (hR : 1 ≤ R) (hN : N = q * R + 1) (hbig : N < (q + 1) * (q + 1)) (f : Nat) (hf : N - 1 < 2 ^ f) (hg : R < 2 ^ f) (h1 : pw f a (N - 1) N = 1) (h2 : Nat.gcd (pw f a R N + (N - 1)) N = 1) : Prm N := by
  have := hq.1
  have : 1 * 1 ≤ q * R := Nat.mul_le_mul (by omega) hR
  rw [pw_eq _ _ _ _ hf] at h1
  rw [pw_eq _ _ _ _ hg] at h2
  exact prm_of (by omega) hbig (pock_div hq hN hR h1 h2)

theorem prm_ne {q s : Nat} (hq : Prm q) (hs : Prm s) (hne : q ≠ s) : Nat.Coprime q s := by
  refine hq.cop fun hd => ?_
  have := hq.1
  rcases hs.2 q hd with e | e
  · omega
  · exact hne e

theorem pock2 {N q s R T a b : Nat} (hq : Prm q) (hs : Prm s) (hne : q ≠ s) (hR : 1 ≤ R) (hT : 1 ≤ T) (hN : N = q * R + 1) (hN2 : N = s * T + 1) (hbig : N < (q * s + 1) * (q * s + 1)) (f : Nat) (hf : N - 1 < 2 ^ f) (hg : R < 2 ^ f) (hg2 : T < 2 ^ f)
    (h1 : pw f a (N - 1) N = 1) (h2 : Nat.gcd (pw f a R N + (N - 1)) N = 1) (h3 : pw f b (N - 1) N = 1) (h4 : Nat.gcd (pw f b T N + (N - 1)) N = 1) : Prm N := by
  have := hq.1
  have : 1 * 1 ≤ q * R := Nat.mul_le_mul (by omega) hR
  rw [pw_eq _ _ _ _ hf] at h1 h3
  rw [pw_eq _ _ _ _ hg] at h2
  rw [pw_eq _ _ _ _ hg2] at h4
  refine prm_of (by omega) hbig fun r hr hd => ?_
  exact Nat.Coprime.mul_dvd_of_dvd_of_dvd (prm_ne hq hs hne) (pock_div hq hN hR h1 h2 r hr hd) (pock_div hs hN2 hT h3 h4 r hr hd)

/-- By trial. -/
theorem prm_trial (n : Nat) (hn : 2 ≤ n) (s : Nat) (hs : n < s * s) (h : (List.range s).all (fun d => d < 2 || n % d != 0 || d == n) = true) : Prm n := by
  refine ⟨hn, fun m hm => ?_⟩
  have key : ∀ m, m ∣ n → m < s → m ≠ 1 → m = n := by
    intro m hm hl h1
    have := List.all_eq_true.1 h m (List.mem_range.2 hl)
    have h0 : m ≠ 0 := fun e => by subst e; have := Nat.eq_zero_of_zero_dvd hm; omega
    have hz := Nat.mod_eq_zero_of_dvd hm
    simp [hz] at this
    omega
  by_cases e1 : m = 1
  · exact .inl e1
  · right
    by_cases hl : m < s
    · exact key m hm hl e1
    · obtain ⟨k, hk⟩ := hm
      have hks : k < s := by
        apply Classical.byContradiction
        intro hge
        have : s * s ≤ m * k := Nat.mul_le_mul (by omega) (by omega)
        omega
      by_cases hk1 : k = 1
      · subst hk1; omega
      · have := key k ⟨m, by rw [hk, Nat.mul_comm]⟩ hks hk1
        have hm1 : 1 < m := by
          have h0 : m ≠ 0 := fun e => by subst e; simp at hk; omega
          omega
        rw [this] at hk
        have : 2 * n ≤ m * n := Nat.mul_le_mul hm1 (Nat.le_refl n)
        omega

end Go.Proofs.Ytfnmnmjpcamkiaa
