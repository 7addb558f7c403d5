/-
  Certificates that the modulus and the base point's order are primes.
-/
import Derived.Test.YthgefjgbkhkmgaaNum
namespace Go.Proofs.Ythgefjgbkhkmgaa.Sap
/-- powers modulo n, a bit at a time -/
def pm (n : Nat) : Nat → Nat → Nat → Nat → Nat
  | 0, _, _, acc => acc
  | f + 1, a, e, acc => pm n f (a * a % n) (e / 2) (if e % 2 = 1 then acc * a % n else acc)

theorem pm_spec (n : Nat) : ∀ f a e acc, e < 2 ^ f → pm n f a e acc % n = acc * a ^ e % n := by
  intro f
  induction f with
  | zero => intro a e acc h; have : e = 0 := by simp at h; exact h
            subst this; simp [pm]
  | succ f ih =>
    intro a e acc h
    rw [Nat.pow_succ] at h
    rw [pm, ih _ _ _ (by omega)]
    have e2 : a ^ e = (a * a) ^ (e / 2) * a ^ (e % 2) := by
      rw [← Nat.pow_two, ← Nat.pow_mul, ← Nat.pow_add, Nat.div_add_mod]
    rw [e2, Nat.mul_mod, Nat.pow_mod, Nat.mod_mod, ← Nat.pow_mod, ← Nat.mul_mod]
    by_cases h1 : e % 2 = 1
    · rw [if_pos h1, h1, Nat.pow_one]
      rw [Nat.mul_mod (acc * a % n), Nat.mod_mod, ← Nat.mul_mod]
      congr 1
      grind
    · rw [if_neg h1, show e % 2 = 0 by omega]
      simp

theorem pm_lt {n : Nat} (hn : 0 < n) : ∀ f a e acc, acc < n → pm n f a e acc < n := by
  intro f
  induction f with
  | zero => intro a e acc h; exact h
  | succ f ih =>
    intro a e acc h
    rw [pm]
    refine ih _ _ _ ?_
    by_cases h1 : e % 2 = 1
    · rw [if_pos h1]; exact Nat.mod_lt _ hn
    · rw [if_neg h1]; exact h

theorem pm_eq {n a e : Nat} (f : Nat) (he : e < 2 ^ f) (hn : 1 < n) : a ^ e % n = pm n f a e 1 := by
  have := pm_spec n f a e 1 he
  rw [Nat.one_mul, Nat.mod_eq_of_lt (pm_lt (by omega) f a e 1 hn)] at this
  exact this.symm

theorem cert_pock {n q t : Nat} (f a : Nat) (hq : Pr q) (hn : 1 < n) (hf : n ≤ 2 ^ f) (ht : n = q * t + 1)
    (h1 : pm n f a (n - 1) 1 = 1) (h2 : Nat.gcd (pm n f a t 1 + (n - 1)) n = 1) : ∀ s, Pr s → s ∣ n → q ∣ s - 1 := by
  have hq2 := hq.1
  have htn : t < n := by
    have : 2 * t ≤ q * t := Nat.mul_le_mul_right _ hq2
    omega
  exact pock (a := a) (t := t) hq hn (by omega) (by rw [pm_eq f (by omega) hn]; exact h1) (by rw [pm_eq f (by omega) hn]; exact h2)

theorem cert1 {n q t : Nat} (f a : Nat) (hq : Pr q) (hn : 1 < n) (hf : n ≤ 2 ^ f) (hr : n < q * q) (ht : n = q * t + 1)
    (h1 : pm n f a (n - 1) 1 = 1) (h2 : Nat.gcd (pm n f a t 1 + (n - 1)) n = 1) : Pr n :=
  pock1 hq hn hr (cert_pock f a hq hn hf ht h1 h2)

theorem cert2 {n q r t u : Nat} (f a b : Nat) (hq : Pr q) (hr : Pr r) (hqr : q ≠ r) (hn : 1 < n) (hf : n ≤ 2 ^ f) (hrt : n < (q * r) * (q * r)) (ht : n = q * t + 1) (hu : n = r * u + 1)
    (h1 : pm n f a (n - 1) 1 = 1) (h2 : Nat.gcd (pm n f a t 1 + (n - 1)) n = 1) (h3 : pm n f b (n - 1) 1 = 1) (h4 : Nat.gcd (pm n f b u 1 + (n - 1)) n = 1) : Pr n :=
  pock2 hq hr hqr hn hrt (cert_pock f a hq hn hf ht h1 h2) (cert_pock f b hr hn hf hu h3 h4)

/-- no divisor among 2 .. k + 1 -/
def nodiv (n : Nat) : Nat → Bool
  | 0 => true
  | k + 1 => (n % (k + 2) != 0) && nodiv n k

theorem nodiv_spec (n : Nat) : ∀ k, nodiv n k = true → ∀ m, 2 ≤ m → m ≤ k + 1 → ¬ m ∣ n := by
  intro k
  induction k with
  | zero => intro _ m h1 h2; omega
  | succ k ih =>
    intro h m h1 h2 hd
    simp only [nodiv, Bool.and_eq_true, bne_iff_ne] at h
    by_cases e : m = k + 2
    · subst e; exact h.1 (Nat.mod_eq_zero_of_dvd hd)
    · exact ih h.2 m h1 (by omega) hd

theorem pr_small (n k : Nat) (hn : 2 ≤ n) (hk : n < (k + 2) * (k + 2)) (h : nodiv n k = true) : Pr n := by
  refine pr_of_root hn fun s hs hd => ?_
  have h2 := hs.1
  by_cases hle : s ≤ k + 1
  · exact absurd hd (nodiv_spec n k h s h2 hle)
  · have : (k + 2) * (k + 2) ≤ s * s := Nat.mul_le_mul (by omega) (by omega)
    omega

theorem pr_353 : Pr 353 := pr_small _ 18 (by decide) (by decide) (by decide +kernel)
theorem pr_75707 : Pr 75707 := pr_small _ 275 (by decide) (by decide) (by decide +kernel)
theorem pr_7 : Pr 7 := pr_small _ 2 (by decide) (by decide) (by decide +kernel)
theorem pr_8574133 : Pr 8574133 := pr_small _ 2928 (by decide) (by decide) (by decide +kernel)
theorem pr_1919519569386763 : Pr 1919519569386763 :=
  cert2 (q := 7) (r := 8574133) (t := 274217081340966) (u := 223873314) 51 2 2 pr_7 pr_8574133 (by decide) (by decide) (by decide) (by decide) (by decide) (by decide) (by decide +kernel) (by decide +kernel) (by decide +kernel) (by decide +kernel)
theorem pr_75445702479781427272750846543864801 : Pr 75445702479781427272750846543864801 :=
  cert2 (q := 75707) (r := 1919519569386763) (t := 996548568557483816196003626400) (u := 39304471641247389600) 116 2 2 pr_75707 pr_1919519569386763 (by decide) (by decide) (by decide) (by decide) (by decide) (by decide) (by decide +kernel) (by decide +kernel) (by decide +kernel) (by decide +kernel)
theorem pr_74058212732561358302231226437062788676166966415465897661863160754340907 : Pr 74058212732561358302231226437062788676166966415465897661863160754340907 :=
  cert2 (q := 353) (r := 75445702479781427272750846543864801) (t := 209796636636151156663544550813209033076960244803019540118592523383402) (u := 981609426360740691344999861639072106) 236 2 2 pr_353 pr_75445702479781427272750846543864801 (by decide) (by decide) (by decide) (by decide) (by decide) (by decide) (by decide +kernel) (by decide +kernel) (by decide +kernel) (by decide +kernel)
theorem pr_57896044618658097711785492504343953926634992332820282019728792003956564819949 : Pr 57896044618658097711785492504343953926634992332820282019728792003956564819949 :=
  cert1 (q := 74058212732561358302231226437062788676166966415465897661863160754340907) (t := 781764) 255 2 pr_74058212732561358302231226437062788676166966415465897661863160754340907 (by decide) (by decide) (by decide) (by decide) (by decide +kernel) (by decide +kernel)
theorem pr_531581 : Pr 531581 := pr_small _ 729 (by decide) (by decide) (by decide +kernel)
theorem pr_1224481 : Pr 1224481 := pr_small _ 1106 (by decide) (by decide) (by decide +kernel)
theorem pr_1257559732178653 : Pr 1257559732178653 :=
  cert2 (q := 531581) (r := 1224481) (t := 2365697292) (u := 1027014492) 51 2 2 pr_531581 pr_1224481 (by decide) (by decide) (by decide) (by decide) (by decide) (by decide) (by decide +kernel) (by decide +kernel) (by decide +kernel) (by decide +kernel)
theorem pr_4434155615661930479 : Pr 4434155615661930479 :=
  cert1 (q := 1257559732178653) (t := 3526) 62 2 pr_1257559732178653 (by decide) (by decide) (by decide) (by decide) (by decide +kernel) (by decide +kernel)
theorem pr_172054593956031949258510691 : Pr 172054593956031949258510691 :=
  cert1 (q := 4434155615661930479) (t := 38802110) 88 2 pr_4434155615661930479 (by decide) (by decide) (by decide) (by decide) (by decide +kernel) (by decide +kernel)
theorem pr_19757330305831588566944191468367130476339 : Pr 19757330305831588566944191468367130476339 :=
  cert1 (q := 172054593956031949258510691) (t := 114831751082918) 134 2 pr_172054593956031949258510691 (by decide) (by decide) (by decide) (by decide) (by decide +kernel) (by decide +kernel)
theorem pr_276602624281642239937218680557139826668747 : Pr 276602624281642239937218680557139826668747 :=
  cert1 (q := 19757330305831588566944191468367130476339) (t := 14) 138 2 pr_19757330305831588566944191468367130476339 (by decide) (by decide) (by decide) (by decide) (by decide +kernel) (by decide +kernel)
theorem pr_7237005577332262213973186563042994240857116359379907606001950938285454250989 : Pr 7237005577332262213973186563042994240857116359379907606001950938285454250989 :=
  cert1 (q := 276602624281642239937218680557139826668747) (t := 26163907866482859529727157400808004) 253 2 pr_276602624281642239937218680557139826668747 (by decide) (by decide) (by decide) (by decide) (by decide +kernel) (by decide +kernel)

end Go.Proofs.Ythgefjgbkhkmgaa.Sap
