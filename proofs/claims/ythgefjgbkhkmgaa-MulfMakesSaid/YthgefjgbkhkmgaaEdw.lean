/-
  The complete Edwards group over the field.
-/
import Derived.Test.YthgefjgbkhkmgaaField
/-! The complete Edwards group: x^2 + y^2 = 1 + d x^2 y^2, d no square. -/
namespace Go.Proofs.Ythgefjgbkhkmgaa.Sap
structure Pt where
  x : F
  y : F
def On (d : F) (p : Pt) : Prop := p.x * p.x + p.y * p.y = 1 + d * p.x * p.x * p.y * p.y
def dd (d : F) (p q : Pt) : F := d * p.x * q.x * p.y * q.y
def padd (d : F) (p q : Pt) : Pt :=
  ⟨(p.x * q.y + p.y * q.x) * inv (1 + dd d p q), (p.y * q.y - p.x * q.x) * inv (1 - dd d p q)⟩
def pO : Pt := ⟨0, 1⟩
def pneg (p : Pt) : Pt := ⟨- p.x, p.y⟩

theorem pt_ext {p q : Pt} (h1 : p.x = q.x) (h2 : p.y = q.y) : p = q := by
  cases p; cases q; simp only at h1 h2; rw [h1, h2]

theorem on_O (d : F) : On d pO := by unfold On pO; grind
theorem on_neg {d : F} {p : Pt} (h : On d p) : On d (pneg p) := by unfold On pneg at *; grind

/-- completeness: neither denominator is 0 -/
theorem complete {d : F} (hd : ∀ s, s * s ≠ d) {p q : Pt} (hp : On d p) (hq : On d q) {e : F} (he : e * e = 1) : dd d p q ≠ e := by
  intro h
  unfold dd at h
  unfold On at hp hq
  have he0 : e ≠ 0 := by intro e0; rw [e0] at he; exact one_ne_zero (by grind)
  obtain ⟨x1, y1⟩ := p
  obtain ⟨x2, y2⟩ := q
  simp only at h hp hq
  have hx1 : x1 ≠ 0 := by intro e0; subst e0; apply he0; grind
  have hy1 : y1 ≠ 0 := by intro e0; subst e0; apply he0; grind
  have k1 : (x1 + e * y1) * (x1 + e * y1) = d * ((x1 * y1) * (x1 * y1)) * ((x2 + y2) * (x2 + y2)) := by grind
  have k2 : (x1 - e * y1) * (x1 - e * y1) = d * ((x1 * y1) * (x1 * y1)) * ((x2 - y2) * (x2 - y2)) := by grind
  have hxy := mul_ne_zero hx1 hy1
  by_cases h1 : x2 + y2 = 0
  · by_cases h2 : x2 - y2 = 0
    · have : x2 = 0 := by
        have : 2 * x2 = 0 := by grind
        exact (mul_eq_zero this).resolve_left two_ne_zero
      subst this
      apply he0
      grind
    · have hz := mul_ne_zero hxy h2
      have hi := mul_inv hz
      refine hd ((x1 - e * y1) * inv (x1 * y1 * (x2 - y2))) ?_
      generalize inv (x1 * y1 * (x2 - y2)) = i at hi
      have : (x1 - e * y1) * i * ((x1 - e * y1) * i) = ((x1 - e * y1) * (x1 - e * y1)) * (i * i) := by grind
      rw [this, k2]
      have : d * (x1 * y1 * (x1 * y1)) * ((x2 - y2) * (x2 - y2)) * (i * i) = d * ((x1 * y1 * (x2 - y2) * i) * (x1 * y1 * (x2 - y2) * i)) := by grind
      rw [this, hi]
      grind
  · have hz := mul_ne_zero hxy h1
    have hi := mul_inv hz
    refine hd ((x1 + e * y1) * inv (x1 * y1 * (x2 + y2))) ?_
    generalize inv (x1 * y1 * (x2 + y2)) = i at hi
    have : (x1 + e * y1) * i * ((x1 + e * y1) * i) = ((x1 + e * y1) * (x1 + e * y1)) * (i * i) := by grind
    rw [this, k1]
    have : d * (x1 * y1 * (x1 * y1)) * ((x2 + y2) * (x2 + y2)) * (i * i) = d * ((x1 * y1 * (x2 + y2) * i) * (x1 * y1 * (x2 + y2) * i)) := by grind
    rw [this, hi]
    grind

theorem den1 {d : F} (hd : ∀ s, s * s ≠ d) {p q : Pt} (hp : On d p) (hq : On d q) : 1 + dd d p q ≠ 0 := by
  intro h
  refine complete hd hp hq (e := -1) (by grind) ?_
  generalize dd d p q = t at h
  grind
theorem den2 {d : F} (hd : ∀ s, s * s ≠ d) {p q : Pt} (hp : On d p) (hq : On d q) : 1 - dd d p q ≠ 0 := by
  intro h
  refine complete hd hp hq (e := 1) (by grind) ?_
  generalize dd d p q = t at h
  grind

theorem on_num (d x1 y1 x2 y2 : F) (h1 : x1 * x1 + y1 * y1 = 1 + d * x1 * x1 * y1 * y1) (h2 : x2 * x2 + y2 * y2 = 1 + d * x2 * x2 * y2 * y2) :
    ((x1 * y2 + y1 * x2) * (1 - d * x1 * x2 * y1 * y2)) * ((x1 * y2 + y1 * x2) * (1 - d * x1 * x2 * y1 * y2)) + ((y1 * y2 - x1 * x2) * (1 + d * x1 * x2 * y1 * y2)) * ((y1 * y2 - x1 * x2) * (1 + d * x1 * x2 * y1 * y2))
    = ((1 + d * x1 * x2 * y1 * y2) * (1 - d * x1 * x2 * y1 * y2)) * ((1 + d * x1 * x2 * y1 * y2) * (1 - d * x1 * x2 * y1 * y2)) + d * ((x1 * y2 + y1 * x2) * (x1 * y2 + y1 * x2)) * ((y1 * y2 - x1 * x2) * (y1 * y2 - x1 * x2)) := by
  grind

theorem on_add {d : F} (hd : ∀ s, s * s ≠ d) {p q : Pt} (hp : On d p) (hq : On d q) : On d (padd d p q) := by
  have h1 := mul_inv (den1 hd hp hq)
  have h2 := mul_inv (den2 hd hp hq)
  unfold padd On
  simp only
  unfold On at hp hq
  have k := on_num d p.x p.y q.x q.y hp hq
  unfold dd at *
  generalize inv (1 + d * p.x * q.x * p.y * q.y) = u at *
  generalize inv (1 - d * p.x * q.x * p.y * q.y) = v at *
  generalize p.x * q.y + p.y * q.x = n1 at *
  generalize p.y * q.y - p.x * q.x = n2 at *
  generalize ha : 1 + d * p.x * q.x * p.y * q.y = a at *
  generalize hb : 1 - d * p.x * q.x * p.y * q.y = b at *
  clear ha hb hp hq
  have e1 : n1 * u * (n1 * u) + n2 * v * (n2 * v) = (n1 * b * (n1 * b) + n2 * a * (n2 * a)) * ((u * v) * (u * v)) := by grind
  rw [e1, k]
  grind

theorem padd_comm (d : F) (p q : Pt) : padd d p q = padd d q p := by
  have e : dd d p q = dd d q p := by unfold dd; grind
  unfold padd
  rw [e]
  congr 2 <;> grind

theorem padd_O (d : F) (p : Pt) : padd d p pO = p := by
  have e : dd d p pO = 0 := by unfold dd pO; grind
  have i0 : inv (1 : F) = 1 := inv_unique (show (1 : F) * 1 = 1 from rfl)
  have i1 : inv ((1 : F) + 0) = 1 := i0
  have i2 : inv ((1 : F) - 0) = 1 := i0
  unfold padd
  rw [e, i1, i2]
  apply pt_ext <;> simp only [pO] <;> grind

theorem padd_neg {d : F} (hd : ∀ s, s * s ≠ d) {p : Pt} (hp : On d p) : padd d p (pneg p) = pO := by
  have h2 := mul_inv (den2 hd hp (on_neg hp))
  unfold padd
  apply pt_ext
  · simp only [pneg, pO]; grind
  · simp only [pO]
    have : (p.y * (pneg p).y - p.x * (pneg p).x) = 1 - dd d p (pneg p) := by
      unfold dd pneg On at *; simp only; grind
    rw [this, h2]

theorem assoc_x (d x1 y1 x2 y2 x3 y3 : F) (h1 : x1 * x1 + y1 * y1 = 1 + d * x1 * x1 * y1 * y1) (h2 : x2 * x2 + y2 * y2 = 1 + d * x2 * x2 * y2 * y2) (h3 : x3 * x3 + y3 * y3 = 1 + d * x3 * x3 * y3 * y3) :
    (((x1*y2+y1*x2)*(1-d*x1*x2*y1*y2))*y3 + ((y1*y2-x1*x2)*(1+d*x1*x2*y1*y2))*x3) * ((1+d*x2*x3*y2*y3)*(1-d*x2*x3*y2*y3) + d*x1*y1*((x2*y3+y2*x3)*(y2*y3-x2*x3)))
    = (x1*((y2*y3-x2*x3)*(1+d*x2*x3*y2*y3)) + y1*((x2*y3+y2*x3)*(1-d*x2*x3*y2*y3))) * ((1+d*x1*x2*y1*y2)*(1-d*x1*x2*y1*y2) + d*x3*y3*((x1*y2+y1*x2)*(y1*y2-x1*x2))) := by
  grind
theorem assoc_y (d x1 y1 x2 y2 x3 y3 : F) (h1 : x1 * x1 + y1 * y1 = 1 + d * x1 * x1 * y1 * y1) (h2 : x2 * x2 + y2 * y2 = 1 + d * x2 * x2 * y2 * y2) (h3 : x3 * x3 + y3 * y3 = 1 + d * x3 * x3 * y3 * y3) :
    (((y1*y2-x1*x2)*(1+d*x1*x2*y1*y2))*y3 - ((x1*y2+y1*x2)*(1-d*x1*x2*y1*y2))*x3) * ((1+d*x2*x3*y2*y3)*(1-d*x2*x3*y2*y3) - d*x1*y1*((x2*y3+y2*x3)*(y2*y3-x2*x3)))
    = (y1*((y2*y3-x2*x3)*(1+d*x2*x3*y2*y3)) - x1*((x2*y3+y2*x3)*(1-d*x2*x3*y2*y3))) * ((1+d*x1*x2*y1*y2)*(1-d*x1*x2*y1*y2) - d*x3*y3*((x1*y2+y1*x2)*(y1*y2-x1*x2))) := by
  grind

theorem frac_sum {A B u v S T x y : F} (a1 : S * u = 1) (a2 : T * v = 1) : A * u * y + B * v * x = (A * T * y + B * S * x) * (u * v) := by
  grind
theorem frac_dif {A B u v S T x y : F} (a1 : S * u = 1) (a2 : T * v = 1) : B * v * y - A * u * x = (B * S * y - A * T * x) * (u * v) := by
  grind
theorem frac_den {d C D u v S T x y : F} (a1 : S * u = 1) (a2 : T * v = 1) : 1 + d * x * (C * u) * y * (D * v) = (S * T + d * x * y * (C * D)) * (u * v) := by
  grind
theorem frac_den' {d C D u v S T x y : F} (a1 : S * u = 1) (a2 : T * v = 1) : 1 - d * x * (C * u) * y * (D * v) = (S * T - d * x * y * (C * D)) * (u * v) := by
  grind
theorem cross {a b c e u v : F} (h : a * b = c * e) : a * u * (b * v) = c * v * (e * u) := by
  have : a * u * (b * v) = (a * b) * (u * v) := by grind
  rw [this, h]
  grind

theorem padd_assoc {d : F} (hd : ∀ s, s * s ≠ d) {p q r : Pt} (hp : On d p) (hq : On d q) (hr : On d r) :
    padd d (padd d p q) r = padd d p (padd d q r) := by
  have hpq := on_add hd hp hq
  have hqr := on_add hd hq hr
  have a1 := mul_inv (den1 hd hp hq)
  have a2 := mul_inv (den2 hd hp hq)
  have b1 := mul_inv (den1 hd hq hr)
  have b2 := mul_inv (den2 hd hq hr)
  have c1 := den1 hd hpq hr
  have c2 := den2 hd hpq hr
  have e1 := den1 hd hp hqr
  have e2 := den2 hd hp hqr
  have kx := assoc_x d p.x p.y q.x q.y r.x r.y hp hq hr
  have ky := assoc_y d p.x p.y q.x q.y r.x r.y hp hq hr
  clear hp hq hr hpq hqr
  obtain ⟨x1, y1⟩ := p
  obtain ⟨x2, y2⟩ := q
  obtain ⟨x3, y3⟩ := r
  unfold padd dd at *
  simp only at *
  generalize inv (1 + d * x1 * x2 * y1 * y2) = u1 at *
  generalize inv (1 - d * x1 * x2 * y1 * y2) = v1 at *
  generalize inv (1 + d * x2 * x3 * y2 * y3) = u2 at *
  generalize inv (1 - d * x2 * x3 * y2 * y3) = v2 at *
  generalize hA : x1 * y2 + y1 * x2 = A at *
  generalize hB : y1 * y2 - x1 * x2 = B at *
  generalize hC : x2 * y3 + y2 * x3 = C at *
  generalize hD : y2 * y3 - x2 * x3 = D at *
  generalize hS : 1 + d * x1 * x2 * y1 * y2 = S1 at *
  generalize hT : 1 - d * x1 * x2 * y1 * y2 = T1 at *
  generalize hS2 : 1 + d * x2 * x3 * y2 * y3 = S2 at *
  generalize hT2 : 1 - d * x2 * x3 * y2 * y3 = T2 at *
  clear hA hB hC hD hS hT hS2 hT2
  congr 1
  · rw [div_eq c1 e1, frac_sum a1 a2, frac_den b1 b2,
      show x1 * (D * v2) + y1 * (C * u2) = C * u2 * y1 + D * v2 * x1 from by grind, frac_sum b1 b2,
      show 1 + d * (A * u1) * x3 * (B * v1) * y3 = 1 + d * x3 * (A * u1) * y3 * (B * v1) from by grind, frac_den a1 a2]
    refine cross ?_
    rw [kx]
    grind
  · rw [div_eq c2 e2, frac_dif a1 a2, frac_den' b1 b2,
      show y1 * (D * v2) - x1 * (C * u2) = D * v2 * y1 - C * u2 * x1 from by grind, frac_dif b1 b2,
      show 1 - d * (A * u1) * x3 * (B * v1) * y3 = 1 - d * x3 * (A * u1) * y3 * (B * v1) from by grind, frac_den' a1 a2]
    refine cross ?_
    rw [ky]
    grind
end Go.Proofs.Ythgefjgbkhkmgaa.Sap
