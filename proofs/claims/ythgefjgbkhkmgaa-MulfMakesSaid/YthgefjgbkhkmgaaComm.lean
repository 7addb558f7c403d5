/-
  The ladder's law: so many times, and then so many times.
-/
import Derived.Test.YthgefjgbkhkmgaaLad
/-! So many times, and then so many times; the base point's order. -/
namespace Go.Proofs.Ythgefjgbkhkmgaa.Sap

theorem on_y_one {d σ g h : F} (H : Good d σ g h) {q : Pt} (hq : On d q) (hy : q.y * q.y = 1) : q.x = 0 := by
  have hd : 1 - d ≠ 0 := by
    intro e
    have hg := H.hg
    rw [e, Fin.mul_zero, Fin.mul_zero] at hg
    exact one_ne_zero hg.symm
  unfold On at hq
  have : q.x * q.x * (1 - d) = 0 := by
    generalize q.x = x at *
    generalize q.y = y at *
    clear hd
    grind
  exact sq_zero ((mul_eq_zero this).resolve_right hd)

def pT : Pt := ⟨0, -1⟩

theorem toU_zero {d σ g h : F} (H : Good d σ g h) {q : Pt} (hq : On d q) (hu : toU σ q = 0) : q = pO ∨ q = pT := by
  have hσ := H.sq
  have hσ0 : σ ≠ 0 := by intro e; rw [e] at hσ; exact one_ne_zero (by rw [← hσ, Fin.mul_zero])
  unfold toU at hu
  by_cases h1 : 1 - q.y = 0
  · have hy : q.y = 1 := by grind
    left
    exact pt_ext (on_y_one H hq (by rw [hy]; rfl)) hy
  · have h2 := (mul_eq_zero hu).resolve_right (inv_ne_zero h1)
    have h3 := (mul_eq_zero h2).resolve_left hσ0
    have hy : q.y = -1 := by grind
    right
    exact pt_ext (on_y_one H hq (by rw [hy]; rfl)) hy

theorem toU_O (σ : F) : toU σ pO = 0 := by
  unfold toU pO
  simp only
  rw [Fin.sub_self, inv_zero, Fin.mul_zero]
theorem toU_T (σ : F) : toU σ pT = 0 := by
  unfold toU pT
  simp only
  have : (1 : F) + -1 = 0 := rfl
  rw [this, Fin.mul_zero, Fin.zero_mul]

theorem on_T (d : F) : On d pT := by
  unfold On pT
  simp only [Fin.mul_zero, Fin.zero_mul]
  rfl
theorem TT (d : F) : padd d pT pT = pO := by
  have e : dd d pT pT = 0 := by unfold dd pT; simp only [Fin.mul_zero, Fin.zero_mul]
  have i0 : inv (1 : F) = 1 := inv_unique (show (1 : F) * 1 = 1 from rfl)
  unfold padd
  rw [e]
  apply pt_ext
  · show ((0 : F) * -1 + -1 * 0) * inv (1 + 0) = 0
    rw [Fin.zero_mul, Fin.mul_zero, show (0 : F) + 0 = 0 from rfl, Fin.zero_mul]
  · show ((-1 : F) * -1 - 0 * 0) * inv (1 - 0) = 1
    rw [show (1 : F) - 0 = 1 from rfl, i0]; rfl
theorem pmul_T (d : F) (n : Nat) : pmul d pT (2 * n) = pO ∧ pmul d pT (2 * n + 1) = pT := by
  induction n with
  | zero => exact ⟨rfl, pmul_one d pT⟩
  | succ n ih =>
    have a : pmul d pT (2 * (n + 1)) = pO := by
      show padd d (pmul d pT (2 * n + 1)) pT = pO
      rw [ih.2, TT]
    refine ⟨a, ?_⟩
    show padd d (pmul d pT (2 * (n + 1))) pT = pT
    rw [a, padd_comm, padd_O]
theorem pmul_T_cases (d : F) (n : Nat) : pmul d pT n = pO ∨ pmul d pT n = pT := by
  rcases Nat.mod_two_eq_zero_or_one n with h | h
  · left; rw [show n = 2 * (n / 2) by omega]; exact (pmul_T d _).1
  · right; rw [show n = 2 * (n / 2) + 1 by omega]; exact (pmul_T d _).2

/-- so many times, and then so many times -/
theorem lad_lad {n m r j k : Nat} (hn : 0 < n) (hm : 0 < m) (hr : 0 < r) (hj : j < 2 ^ n) (hk : k < 2 ^ m) (hjk : j * k < 2 ^ r) (x : F) :
    lad n j (lad m k x) = lad r (j * k) x := by
  by_cases hx : x = 0
  · subst hx; rw [lad_zero hm, lad_zero hn, lad_zero hr]
  · obtain ⟨d, σ, g, h, p, H⟩ := point_of hx
    have hd := H.good.nosq
    rw [lad_point H hk, lad_point H hjk, Nat.mul_comm, ← pmul_mul hd H.on]
    have hq := on_pmul hd H.on k
    generalize pmul d p k = q at hq
    by_cases hu : toU σ q = 0
    · rw [hu, lad_zero hn]
      rcases toU_zero H.good hq hu with e | e
      · rw [e, pmul_O, toU_O]
      · rw [e]
        rcases pmul_T_cases d j with e | e
        · rw [e, toU_O]
        · rw [e, toU_T]
    · have h1 : 1 - q.y ≠ 0 := by
        intro e; apply hu; unfold toU; rw [e, inv_zero, Fin.mul_zero]
      have h2 : 1 + q.y ≠ 0 := by
        intro e; apply hu; unfold toU; rw [e, Fin.mul_zero, Fin.zero_mul]
      have hi := mul_inv h1
      have H' : IsX d σ g h (toU σ q) q := ⟨H.good, hq, by
        unfold toU
        generalize inv (1 - q.y) = i at *
        generalize 1 - q.y = z at *
        generalize σ * (1 + q.y) = w
        have : w * i * z = w * (z * i) := by grind
        rw [this, hi, Fin.mul_one], h1, h2⟩
      exact lad_point H' hj

theorem lad_comm {n j k : Nat} (hn : 0 < n) (hj : j < 2 ^ n) (hk : k < 2 ^ n) (x : F) : lad n j (lad n k x) = lad n k (lad n j x) := by
  have h1 : j * k < 2 ^ (n + n) := by rw [Nat.pow_add]; exact Nat.mul_lt_mul'' hj hk
  have h2 : k * j < 2 ^ (n + n) := by rw [Nat.mul_comm]; exact h1
  rw [lad_lad hn hn (r := n + n) (by omega) hj hk h1, lad_lad hn hn (r := n + n) (by omega) hk hj h2, Nat.mul_comm]

theorem lad_0 {n : Nat} (hn : 0 < n) (x : F) : lad n 0 x = 0 := by
  by_cases hx : x = 0
  · subst hx; exact lad_zero hn
  · obtain ⟨d, σ, g, h, p, H⟩ := point_of hx
    rw [lad_point H (Nat.two_pow_pos n)]
    exact toU_O σ

theorem lad_1 {n : Nat} (hn : 0 < n) (x : F) : lad n 1 x = x := by
  by_cases hx : x = 0
  · subst hx; exact lad_zero hn
  · obtain ⟨d, σ, g, h, p, H⟩ := point_of hx
    rw [lad_point H (Nat.one_lt_two_pow (by omega)), pmul_one]
    unfold toU
    rw [← H.hx]
    have hi := mul_inv H.hp1
    generalize inv (1 - p.y) = i at *
    generalize 1 - p.y = z at *
    have : x * z * i = x * (z * i) := by grind
    rw [this, hi, Fin.mul_one]

/-! ## Points of small order -/
theorem lad_four (x : F) (hx : x = 1 ∨ x = -1) : lad 3 4 x = 0 := by
  have hz : (lst x 4 3 3).z2 = 0 := by rcases hx with e | e <;> subst e <;> decide +kernel
  unfold lad
  rw [hz, inv_zero, Fin.mul_zero]
theorem lad_small {n m : Nat} (hn : 0 < n) (h : 4 * m < 2 ^ n) (x : F) (hx : x = 0 ∨ x = 1 ∨ x = -1) : lad n (4 * m) x = 0 := by
  rcases hx with e | e
  · subst e; exact lad_zero hn
  · rw [Nat.mul_comm, ← lad_lad hn (m := 3) (by omega) hn (j := m) (k := 4) (by omega) (by decide) (by omega), lad_four x e, lad_zero hn]

/-! ## The base point -/
def ell : Nat := 7237005577332262213973186563042994240857116359379907606001950938285454250989
theorem ell_pr : Pr ell := pr_7237005577332262213973186563042994240857116359379907606001950938285454250989
def nine : F := toF 9
theorem nine_ne : nine ≠ 0 := by decide

theorem base_z : (lst nine ell 253 253).z2 = 0 := by decide +kernel

/-- multiples that are the neutral point: closed under the greatest common divisor -/
theorem pmul_gcd {d : F} (hd : ∀ s, s * s ≠ d) {p : Pt} (hp : On d p) : ∀ m n : Nat, pmul d p m = pO → pmul d p n = pO → pmul d p (Nat.gcd m n) = pO := by
  intro m n
  induction m, n using Nat.gcd.induction with
  | H0 n => intro _ h; rwa [Nat.gcd_zero_left]
  | H1 m n hm ih =>
    intro h1 h2
    rw [Nat.gcd_rec]
    refine ih ?_ h1
    rw [← Nat.mod_add_div n m, pmul_add hd hp, ← pmul_mul hd hp, h1, pmul_O, padd_O] at h2
    exact h2

theorem base_order : ∃ d σ g h p, IsX d σ g h nine p ∧ pmul d p ell = pO := by
  obtain ⟨d, σ, g, h, p, H⟩ := point_of nine_ne
  refine ⟨d, σ, g, h, p, H, ?_⟩
  have hr := (inv_all H (k := ell) (n := 253) (by decide) 253 (Nat.le_refl _)).1
  rw [Nat.sub_self, Nat.pow_zero, Nat.div_one] at hr
  obtain ⟨t, ht, _, hz⟩ := hr
  rw [base_z] at hz
  have h1 := (mul_eq_zero hz.symm).resolve_left ht
  have hy : (pmul d p ell).y = 1 := by
    generalize (pmul d p ell).y = y at h1
    grind
  exact pt_ext (on_y_one H.good (on_pmul H.good.nosq H.on ell) (by rw [hy]; rfl)) hy

theorem lad_base {n k : Nat} (hk : k < 2 ^ n) (h : ¬ ell ∣ k) : lad n k nine ≠ 0 := by
  intro h0
  obtain ⟨d, σ, g, hh, p, H, ho⟩ := base_order
  have hd := H.good.nosq
  rw [lad_point H hk] at h0
  have hq := on_pmul hd H.on k
  have hO : pmul d p k = pO := by
    rcases toU_zero H.good hq h0 with e | e
    · exact e
    · exfalso
      have h2 : pmul d (pmul d p k) ell = pO := by
        rw [pmul_mul hd H.on, Nat.mul_comm, ← pmul_mul hd H.on, ho, pmul_O]
      rw [e, show ell = 2 * (ell / 2) + 1 by decide, (pmul_T d _).2] at h2
      have := congrArg Pt.y h2
      exact neg_one_ne this
  have hg := pmul_gcd hd H.on _ _ ho hO
  rw [ell_pr.coprime h, pmul_one] at hg
  have := H.hp1
  rw [hg] at this
  exact this (Fin.sub_self)

/-- two secrets: never 0 -/
theorem lad_base2 {n j k : Nat} (hn : 0 < n) (hj : j < 2 ^ n) (hk : k < 2 ^ n) (h1 : ¬ ell ∣ j) (h2 : ¬ ell ∣ k) : lad n j (lad n k nine) ≠ 0 := by
  have hjk : j * k < 2 ^ (n + n) := by rw [Nat.pow_add]; exact Nat.mul_lt_mul'' hj hk
  rw [lad_lad hn hn (r := n + n) (by omega) hj hk hjk]
  exact lad_base hjk fun h => (ell_pr.dvd_mul h).elim h1 h2

/-- a clamped secret is no multiple of the base point's order -/
theorem clamped_not {k : Nat} (h8 : k % 8 = 0) (h1 : 0 < k) (h2 : k < 2 ^ 255) : ¬ ell ∣ k := by
  intro h
  have e : k = 8 * (k / 8) := by omega
  rw [e] at h
  rcases ell_pr.dvd_mul h with h | h
  · have := Nat.le_of_dvd (by decide) h
    exact absurd this (by decide)
  · have := Nat.le_of_dvd (by omega) h
    have hl : 2 ^ 252 < ell := by decide
    have e2 : 2 ^ 255 = 8 * 2 ^ 252 := by decide
    omega
end Go.Proofs.Ythgefjgbkhkmgaa.Sap
