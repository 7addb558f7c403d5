/-
  The field of 2^255 - 19 elements.
-/
import Derived.Test.YthgefjgbkhkmgaaCert
/-! The field of 2^255 - 19 elements. -/
namespace Go.Proofs.Ythgefjgbkhkmgaa.Sap
def P : Nat := 57896044618658097711785492504343953926634992332820282019728792003956564819949
theorem P_pr : Pr P := pr_57896044618658097711785492504343953926634992332820282019728792003956564819949
instance : NeZero P := ⟨by decide⟩
abbrev F := Fin P
theorem P_gt : 2 ^ 254 < P := by decide
theorem P_lt : P < 2 ^ 255 := by decide
theorem P_pos : 0 < P := by decide

/-- a natural number as an element -/
def toF (n : Nat) : F := Fin.ofNat P n
theorem toF_val (n : Nat) : (toF n).val = n % P := rfl
theorem toF_eq {m n : Nat} : toF m = toF n ↔ m % P = n % P := by
  rw [Fin.ext_iff]; rfl
theorem toF_add (m n : Nat) : toF (m + n) = toF m + toF n := by
  apply Fin.ext; rw [Fin.val_add, toF_val, toF_val, toF_val, ← Nat.add_mod]
theorem toF_mul (m n : Nat) : toF (m * n) = toF m * toF n := by
  apply Fin.ext; rw [Fin.val_mul, toF_val, toF_val, toF_val, ← Nat.mul_mod]
theorem toF_self (a : F) : toF a.val = a := by
  apply Fin.ext; rw [toF_val]; exact Nat.mod_eq_of_lt a.isLt
theorem toF_zero : toF 0 = 0 := rfl
theorem toF_one : toF 1 = 1 := rfl
theorem toF_P : toF P = 0 := by apply Fin.ext; rw [toF_val, Nat.mod_self]; rfl
theorem toF_lit (n : Nat) : toF n = Fin.ofNat P n := rfl

theorem mul_eq_zero {a b : F} (h : a * b = 0) : a = 0 ∨ b = 0 := by
  have h := congrArg Fin.val h
  rw [Fin.val_mul] at h
  have h : P ∣ a.val * b.val := Nat.dvd_of_mod_eq_zero h
  rcases P_pr.dvd_mul h with e | e
  · left; apply Fin.ext; have := Nat.mod_eq_zero_of_dvd e; rwa [Nat.mod_eq_of_lt a.isLt] at this
  · right; apply Fin.ext; have := Nat.mod_eq_zero_of_dvd e; rwa [Nat.mod_eq_of_lt b.isLt] at this
theorem mul_ne_zero {a b : F} (ha : a ≠ 0) (hb : b ≠ 0) : a * b ≠ 0 := fun h => (mul_eq_zero h).elim ha hb
theorem one_ne_zero : (1 : F) ≠ 0 := by decide
theorem two_ne_zero : (2 : F) ≠ 0 := by decide
theorem mul_left_cancel {a b c : F} (ha : a ≠ 0) (h : a * b = a * c) : b = c := by
  have : a * (b - c) = 0 := by grind
  have := (mul_eq_zero this).resolve_left ha
  grind
theorem sq_eq {a b : F} (h : a * a = b * b) : a = b ∨ a = - b := by
  have : (a - b) * (a + b) = 0 := by grind
  rcases mul_eq_zero this with e | e
  · left; grind
  · right; grind

/-- powers -/
def pw (a : F) (n : Nat) : F := toF (a.val ^ n)
theorem pw_zero (a : F) : pw a 0 = 1 := by unfold pw; rw [Nat.pow_zero]; rfl
theorem pw_one (a : F) : pw a 1 = a := by unfold pw; rw [Nat.pow_one, toF_self]
theorem pw_add (a : F) (m n : Nat) : pw a (m + n) = pw a m * pw a n := by unfold pw; rw [Nat.pow_add, toF_mul]
theorem pw_succ (a : F) (n : Nat) : pw a (n + 1) = pw a n * a := by rw [pw_add, pw_one]
theorem pw_toF (m n : Nat) : pw (toF m) n = toF (m ^ n) := by
  unfold pw; rw [toF_val, toF_eq, ← Nat.pow_mod]
theorem pw_pw (a : F) (m n : Nat) : pw (pw a m) n = pw a (m * n) := by
  show pw (toF (a.val ^ m)) n = _
  rw [pw_toF, ← Nat.pow_mul]; rfl
theorem pw_mul (a b : F) (n : Nat) : pw (a * b) n = pw a n * pw b n := by
  unfold pw; rw [Fin.val_mul, ← toF_mul, ← Nat.mul_pow, toF_eq, ← Nat.pow_mod]
theorem pw_one_base (n : Nat) : pw 1 n = 1 := by
  induction n with
  | zero => exact pw_zero 1
  | succ n ih => rw [pw_succ, ih]; rfl
theorem pw_two (a : F) : pw a 2 = a * a := by rw [show 2 = 1 + 1 from rfl, pw_add, pw_one]
theorem pw_zero_base {n : Nat} (hn : n ≠ 0) : pw 0 n = 0 := by
  obtain ⟨m, rfl⟩ : ∃ m, n = m + 1 := ⟨n - 1, by omega⟩
  rw [pw_succ]; grind

theorem fermatF {a : F} (ha : a ≠ 0) : pw a (P - 1) = 1 := by
  have : ¬ P ∣ a.val := by
    intro hd
    apply ha
    apply Fin.ext
    have := Nat.mod_eq_zero_of_dvd hd
    rwa [Nat.mod_eq_of_lt a.isLt] at this
  have h := fermat1 a.val P_pr this
  exact toF_eq.2 h
theorem fermatP (a : F) : pw a P = a := by
  have h := fermat a.val P_pr
  exact (toF_eq.2 h).trans (toF_self a)

/-- what undoes an element -/
def inv (a : F) : F := pw a (P - 2)
theorem inv_zero : inv 0 = 0 := pw_zero_base (by decide)
theorem mul_inv {a : F} (ha : a ≠ 0) : a * inv a = 1 := by
  unfold inv
  have : a * pw a (P - 2) = pw a (P - 1) := by
    rw [show P - 1 = (P - 2) + 1 from by have := P_gt; omega, pw_succ]; grind
  rw [this, fermatF ha]
theorem inv_ne_zero {a : F} (ha : a ≠ 0) : inv a ≠ 0 := by
  intro h
  have := mul_inv ha
  rw [h] at this
  exact one_ne_zero (by grind)
theorem inv_unique {a b : F} (h : a * b = 1) : inv a = b := by
  have ha : a ≠ 0 := by
    intro e; subst e; exact one_ne_zero (by grind)
  exact mul_left_cancel ha (by rw [mul_inv ha, h])
theorem inv_mul (a b : F) : inv (a * b) = inv a * inv b := pw_mul a b _
theorem inv_inv (a : F) : inv (inv a) = a := by
  by_cases ha : a = 0
  · subst ha; rw [inv_zero, inv_zero]
  · exact inv_unique (by have := mul_inv ha; grind)
theorem div_eq {a b c d : F} (hb : b ≠ 0) (hd : d ≠ 0) : a * inv b = c * inv d ↔ a * d = c * b := by
  have h1 := mul_inv hb
  have h2 := mul_inv hd
  constructor
  · intro h; grind
  · intro h; grind

/-! Euler's rule and roots -/
theorem euler_cases {a : F} (ha : a ≠ 0) : pw a ((P - 1) / 2) = 1 ∨ pw a ((P - 1) / 2) = -1 := by
  apply sq_eq
  rw [← pw_add, show (P - 1) / 2 + (P - 1) / 2 = P - 1 from by decide, fermatF ha]
  grind
theorem neg_one_ne : (-1 : F) ≠ 1 := by decide
theorem euler_sq {a s : F} (ha : a ≠ 0) (h : s * s = a) : pw a ((P - 1) / 2) = 1 := by
  have hs : s ≠ 0 := by
    intro e; subst e; apply ha; rw [← h]; grind
  rw [← h, ← pw_two, pw_pw, show 2 * ((P - 1) / 2) = P - 1 from by decide, fermatF hs]
theorem euler_two : pw (toF 2) ((P - 1) / 2) = -1 := by
  rw [pw_toF]
  apply Fin.ext
  rw [toF_val, pm_eq 255 (by decide) (by decide)]
  decide +kernel
theorem sqrt_of {a : F} (h : pw a ((P - 1) / 2) = 1) : ∃ s, s * s = a := by
  have e2 : (P - 1) / 2 = (P - 1) / 4 + (P - 1) / 4 := by decide
  have e4 : (P - 1) / 4 + 1 = (P + 3) / 8 + (P + 3) / 8 := by decide
  rw [e2, pw_add] at h
  have hs : pw a ((P + 3) / 8) * pw a ((P + 3) / 8) = pw a ((P - 1) / 4) * a := by
    rw [← pw_add, ← e4, pw_succ]
  rcases sq_eq (a := pw a ((P - 1) / 4)) (b := 1) (by rw [h]; rfl) with e | e
  · exact ⟨pw a ((P + 3) / 8), by rw [hs, e]; grind⟩
  · have hi := euler_two
    rw [e2, pw_add] at hi
    exact ⟨pw (toF 2) ((P - 1) / 4) * pw a ((P + 3) / 8), by grind⟩
end Go.Proofs.Ythgefjgbkhkmgaa.Sap
