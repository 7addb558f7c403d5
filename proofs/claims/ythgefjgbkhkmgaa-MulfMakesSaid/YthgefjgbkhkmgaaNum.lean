/-
  Plain number theory on natural numbers: primes, Fermat's rule, Pocklington's test.
-/
/-! Plain number theory on natural numbers: primes, Fermat's rule, Pocklington's test. -/
namespace Go.Proofs.Ythgefjgbkhkmgaa.Sap

/-- a prime number -/
def Pr (n : Nat) : Prop := 2 ≤ n ∧ ∀ m, m ∣ n → m = 1 ∨ m = n

theorem Pr.pos {n : Nat} (h : Pr n) : 0 < n := by have := h.1; omega

theorem Pr.coprime {p a : Nat} (h : Pr p) (ha : ¬ p ∣ a) : Nat.gcd p a = 1 := by
  rcases h.2 _ (Nat.gcd_dvd_left p a) with e | e
  · exact e
  · exact absurd (e ▸ Nat.gcd_dvd_right p a) ha

theorem Pr.dvd_mul {p a b : Nat} (h : Pr p) (hd : p ∣ a * b) : p ∣ a ∨ p ∣ b := by
  by_cases ha : p ∣ a
  · exact Or.inl ha
  · exact Or.inr (Nat.Coprime.dvd_of_dvd_mul_left (h.coprime ha) hd)

theorem Pr.not_dvd_one {p : Nat} (h : Pr p) : ¬ p ∣ 1 := by
  intro hd
  have := Nat.le_of_dvd (by omega) hd
  have := h.1
  omega

/-- every number from 2 on has a prime divisor -/
theorem exists_prime (n : Nat) : 2 ≤ n → ∃ p, Pr p ∧ p ∣ n := by
  induction n using Nat.strongRecOn with
  | ind n ih =>
    intro hn
    by_cases hp : Pr n
    · exact ⟨n, hp, Nat.dvd_refl n⟩
    · have : ∃ m, m ∣ n ∧ m ≠ 1 ∧ m ≠ n := by
        apply Classical.byContradiction
        intro hc
        apply hp
        refine ⟨hn, fun m hm => ?_⟩
        by_cases h1 : m = 1
        · exact Or.inl h1
        · by_cases h2 : m = n
          · exact Or.inr h2
          · exact absurd ⟨m, hm, h1, h2⟩ hc
      obtain ⟨m, hm, h1, h2⟩ := this
      have hle := Nat.le_of_dvd (by omega) hm
      have hm0 : m ≠ 0 := by
        intro e
        subst e
        have := Nat.eq_zero_of_zero_dvd hm
        omega
      obtain ⟨p, hp, hd⟩ := ih m (by omega) (by omega)
      exact ⟨p, hp, Nat.dvd_trans hd hm⟩

/-! binomials -/
def ch : Nat → Nat → Nat
  | _, 0 => 1
  | 0, _ + 1 => 0
  | n + 1, k + 1 => ch n k + ch n (k + 1)

theorem ch_zero (n : Nat) : ch n 0 = 1 := by cases n <;> rfl
theorem ch_lt (n : Nat) : ∀ k, n < k → ch n k = 0 := by
  induction n with
  | zero => intro k hk; cases k with
    | zero => omega
    | succ k => rfl
  | succ n ih => intro k hk; cases k with
    | zero => omega
    | succ k => show ch n k + ch n (k + 1) = 0; rw [ih k (by omega), ih (k + 1) (by omega)]
theorem ch_self (n : Nat) : ch n n = 1 := by
  induction n with
  | zero => rfl
  | succ n ih => show ch n n + ch n (n + 1) = 1; rw [ih, ch_lt n (n + 1) (by omega)]

theorem ch_mul (n : Nat) : ∀ k, (k + 1) * ch (n + 1) (k + 1) = (n + 1) * ch n k := by
  induction n with
  | zero => intro k; cases k with
    | zero => rfl
    | succ k => show (k + 2) * (0 + 0) = 1 * 0; omega
  | succ n ih =>
    intro k
    cases k with
    | zero =>
      show 1 * (ch (n + 1) 0 + ch (n + 1) 1) = (n + 2) * ch (n + 1) 0
      have := ih 0
      simp only [ch_zero, Nat.zero_add, Nat.one_mul, Nat.mul_one] at *
      omega
    | succ k =>
      show (k + 2) * (ch (n + 1) (k + 1) + ch (n + 1) (k + 2)) = (n + 2) * (ch n k + ch n (k + 1))
      have h1 := ih k
      have h2 := ih (k + 1)
      rw [Nat.mul_add, h2, show (k + 2) * ch (n + 1) (k + 1) = (k + 1) * ch (n + 1) (k + 1) + ch (n + 1) (k + 1) by rw [show k + 2 = (k + 1) + 1 from rfl, Nat.add_mul (k + 1) 1, Nat.one_mul], h1]
      have e : ch (n + 1) (k + 1) = ch n k + ch n (k + 1) := rfl
      rw [e]
      grind

theorem Pr.dvd_ch {p : Nat} (h : Pr p) {k : Nat} (h0 : 0 < k) (hk : k < p) : p ∣ ch p k := by
  obtain ⟨k, rfl⟩ : ∃ m, k = m + 1 := ⟨k - 1, by omega⟩
  obtain ⟨n, rfl⟩ : ∃ m, p = m + 1 := ⟨p - 1, by omega⟩
  have := ch_mul n k
  rcases h.dvd_mul (a := k + 1) (b := ch (n + 1) (k + 1)) (by rw [this]; exact Nat.dvd_mul_right _ _) with e | e
  · have := Nat.le_of_dvd (by omega) e; omega
  · exact e

/-- the sum of the first m terms of (a + 1)^n -/
def bs (a n : Nat) : Nat → Nat
  | 0 => 0
  | m + 1 => bs a n m + ch n m * a ^ m

theorem bs_succ (a n : Nat) : ∀ m, bs a (n + 1) (m + 1) = bs a n (m + 1) + a * bs a n m := by
  intro m
  induction m with
  | zero => simp [bs, ch_zero]
  | succ m ih =>
    rw [show bs a (n + 1) (m + 1 + 1) = bs a (n + 1) (m + 1) + ch (n + 1) (m + 1) * a ^ (m + 1) from rfl, ih,
      show bs a n (m + 1 + 1) = bs a n (m + 1) + ch n (m + 1) * a ^ (m + 1) from rfl,
      show ch (n + 1) (m + 1) = ch n m + ch n (m + 1) from rfl,
      show bs a n (m + 1) = bs a n m + ch n m * a ^ m from rfl, Nat.pow_succ]
    grind

theorem bs_all (a n : Nat) : bs a n (n + 1) = (a + 1) ^ n := by
  induction n with
  | zero => simp [bs, ch_zero]
  | succ n ih =>
    rw [bs_succ, ih, show bs a n (n + 1 + 1) = bs a n (n + 1) + ch n (n + 1) * a ^ (n + 1) from rfl, ih, ch_lt n (n + 1) (by omega), Nat.pow_succ]
    grind

theorem bs_mod (a : Nat) {p : Nat} (h : Pr p) : ∀ m, m < p → bs a p (m + 1) % p = 1 % p := by
  intro m
  induction m with
  | zero => intro _; simp [bs, ch_zero]
  | succ m ih =>
    intro hm
    rw [show bs a p (m + 1 + 1) = bs a p (m + 1) + ch p (m + 1) * a ^ (m + 1) from rfl]
    obtain ⟨c, hc⟩ := h.dvd_ch (k := m + 1) (by omega) hm
    rw [hc, Nat.mul_assoc, Nat.add_mul_mod_self_left]
    exact ih (by omega)

theorem fermat_add (a : Nat) {p : Nat} (h : Pr p) : (a + 1) ^ p % p = (a ^ p + 1) % p := by
  obtain ⟨n, rfl⟩ : ∃ m, p = m + 1 := ⟨p - 1, by have := h.1; omega⟩
  rw [← bs_all, show bs a (n + 1) (n + 1 + 1) = bs a (n + 1) (n + 1) + ch (n + 1) (n + 1) * a ^ (n + 1) from rfl, ch_self, Nat.one_mul, Nat.add_mod, bs_mod a h n (by omega), ← Nat.add_mod, Nat.add_comm]

theorem fermat (a : Nat) {p : Nat} (h : Pr p) : a ^ p % p = a % p := by
  induction a with
  | zero => rw [Nat.zero_pow h.pos]
  | succ a ih => rw [fermat_add a h, Nat.add_mod, ih, ← Nat.add_mod]

theorem fermat1 (a : Nat) {p : Nat} (h : Pr p) (ha : ¬ p ∣ a) : a ^ (p - 1) % p = 1 % p := by
  have hf := fermat a h
  have h2 := h.1
  have hp : a ≤ a ^ p := by
    calc a = a ^ 1 := (Nat.pow_one a).symm
      _ ≤ a ^ p := by
        rcases Nat.eq_zero_or_pos a with e | e
        · subst e; simp
        · exact Nat.pow_le_pow_right e (by omega)
  have hd : p ∣ a ^ p - a := (Nat.dvd_iff_mod_eq_zero).2 (by rw [Nat.sub_mod_eq_zero_of_mod_eq hf])
  have e : a ^ p - a = a * (a ^ (p - 1) - 1) := by
    rw [Nat.mul_sub, Nat.mul_one, ← Nat.pow_succ']; congr 2; omega
  rw [e] at hd
  have hd := (h.dvd_mul hd).resolve_left ha
  have h1 : 1 ≤ a ^ (p - 1) := Nat.one_le_iff_ne_zero.2 (by
    intro e
    have := Nat.pow_eq_zero.1 e
    apply ha; rw [this.1]; exact Nat.dvd_zero p)
  obtain ⟨c, hc⟩ := hd
  have : a ^ (p - 1) = 1 + p * c := by omega
  rw [this, Nat.add_mul_mod_self_left]

/-- exponents at which b is 1 modulo s -/
theorem pow_mod_one {b s : Nat} : ∀ m n : Nat, b ^ m % s = 1 % s → b ^ n % s = 1 % s → b ^ Nat.gcd m n % s = 1 % s := by
  intro m n
  induction m, n using Nat.gcd.induction with
  | H0 n => intro _ h; simpa using h
  | H1 m n hm ih =>
    intro h1 h2
    rw [Nat.gcd_rec]
    refine ih ?_ h1
    have e : b ^ n = b ^ (n % m) * (b ^ m) ^ (n / m) := by
      rw [← Nat.pow_mul, ← Nat.pow_add, Nat.mod_add_div]
    rw [e, Nat.mul_mod, Nat.pow_mod (b ^ m), h1, ← Nat.pow_mod, Nat.one_pow, ← Nat.mul_mod, Nat.mul_one] at h2
    exact h2

/-- Pocklington: every prime divisor of n is 1 modulo q -/
theorem pock {n q a t : Nat} (hq : Pr q) (hn : 1 < n) (ht : n - 1 = q * t) (h1 : a ^ (n - 1) % n = 1) (h2 : Nat.gcd (a ^ t % n + (n - 1)) n = 1) :
    ∀ s, Pr s → s ∣ n → q ∣ s - 1 := by
  intro s hs hd
  have hs2 := hs.1
  have hb : (a ^ t) ^ q % s = 1 % s := by
    rw [← Nat.pow_mul, Nat.mul_comm, ← ht]
    have := congrArg (fun z => z % s) h1
    simp only [Nat.mod_mod_of_dvd _ hd] at this
    exact this
  have hns : ¬ s ∣ a ^ t := by
    intro hc
    have : s ∣ (a ^ t) ^ q := Nat.dvd_trans hc ((show a ^ t ∣ (a ^ t) ^ q from by obtain ⟨k, hk⟩ : ∃ k, q = k + 1 := ⟨q - 1, by have := hq.1; omega⟩; rw [hk, Nat.pow_succ]; exact Nat.dvd_mul_left _ _))
    have e := Nat.mod_eq_zero_of_dvd this
    rw [hb, Nat.mod_eq_of_lt (by omega)] at e
    omega
  have hf := fermat1 (a ^ t) hs hns
  apply Classical.byContradiction
  intro hnq
  have hg : Nat.gcd q (s - 1) = 1 := hq.coprime hnq
  have h3 := pow_mod_one _ _ hb hf
  rw [hg, Nat.pow_one] at h3
  -- then s divides a^t - 1 and n
  have h4 : s ∣ a ^ t % n + (n - 1) := by
    obtain ⟨c, hc⟩ := hd
    apply Nat.dvd_of_mod_eq_zero
    rw [Nat.add_mod, Nat.mod_mod_of_dvd _ ⟨c, hc⟩, h3, ← Nat.add_mod, show 1 + (n - 1) = n by omega, hc, Nat.mul_mod_right]
  have h5 : s ∣ 1 := by rw [← h2]; exact Nat.dvd_gcd h4 hd
  exact hs.not_dvd_one h5

/-- no prime divisor up to the root: a prime -/
theorem pr_of_root {n : Nat} (hn : 2 ≤ n) (h : ∀ s, Pr s → s ∣ n → n < s * s) : Pr n := by
  refine ⟨hn, fun m hm => ?_⟩
  by_cases h1 : m = 1
  · exact Or.inl h1
  by_cases h2 : m = n
  · exact Or.inr h2
  exfalso
  obtain ⟨c, hc⟩ := hm
  have hm0 : m ≠ 0 := by intro e; subst e; omega
  have hc0 : c ≠ 0 := by intro e; subst e; omega
  have hc1 : c ≠ 1 := by intro e; subst e; omega
  obtain ⟨s, hs, hsd⟩ := exists_prime m (by omega)
  obtain ⟨u, hu, hud⟩ := exists_prime c (by omega)
  have k1 := h s hs (Nat.dvd_trans hsd ⟨c, hc⟩)
  have k2 := h u hu (Nat.dvd_trans hud ⟨m, by rw [hc, Nat.mul_comm]⟩)
  have l1 := Nat.le_of_dvd (by omega) hsd
  have l2 := Nat.le_of_dvd (by omega) hud
  rcases Nat.le_total s u with hle | hle
  · have : s * s ≤ s * u := Nat.mul_le_mul_left _ hle
    have : s * u ≤ m * c := Nat.mul_le_mul l1 l2
    omega
  · have : u * u ≤ s * u := Nat.mul_le_mul_right _ hle
    have : s * u ≤ m * c := Nat.mul_le_mul l1 l2
    omega

theorem pock1 {n q : Nat} (_hq : Pr q) (hn : 1 < n) (hr : n < q * q) (h : ∀ s, Pr s → s ∣ n → q ∣ s - 1) : Pr n := by
  refine pr_of_root (by omega) fun s hs hd => ?_
  obtain ⟨c, hc⟩ := h s hs hd
  have hs2 := hs.1
  have : c ≠ 0 := by intro e; subst e; omega
  have : q * 1 ≤ q * c := Nat.mul_le_mul_left _ (by omega)
  have : q ≤ s := by omega
  have := Nat.mul_le_mul this this
  omega

theorem pock2 {n q r : Nat} (hq : Pr q) (hr : Pr r) (hqr : q ≠ r) (hn : 1 < n) (hrt : n < (q * r) * (q * r))
    (h : ∀ s, Pr s → s ∣ n → q ∣ s - 1) (h' : ∀ s, Pr s → s ∣ n → r ∣ s - 1) : Pr n := by
  refine pr_of_root (by omega) fun s hs hd => ?_
  have d1 := h s hs hd
  have d2 := h' s hs hd
  have hs2 := hs.1
  have hco : Nat.Coprime q r := by
    apply hq.coprime
    intro hc
    rcases hr.2 _ hc with e | e
    · have := hq.1; omega
    · exact hqr e
  obtain ⟨c, hc⟩ := Nat.Coprime.mul_dvd_of_dvd_of_dvd hco d1 d2
  have : c ≠ 0 := by intro e; subst e; omega
  have : (q * r) * 1 ≤ (q * r) * c := Nat.mul_le_mul_left _ (by omega)
  have : q * r ≤ s := by omega
  have := Nat.mul_le_mul this this
  omega

end Go.Proofs.Ythgefjgbkhkmgaa.Sap
