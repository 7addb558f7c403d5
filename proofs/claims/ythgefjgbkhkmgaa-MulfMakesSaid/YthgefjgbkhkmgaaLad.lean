/-
  Montgomery's ladder over the field, and the multiples of a point.
-/
import Derived.Test.YthgefjgbkhkmgaaEdw
/-! Montgomery's ladder over the field, and the multiples of a point. -/
namespace Go.Proofs.Ythgefjgbkhkmgaa.Sap

/-! ## Multiples -/
def pmul (d : F) (p : Pt) : Nat → Pt
  | 0 => pO
  | n + 1 => padd d (pmul d p n) p

section
variable {d : F} (hd : ∀ s, s * s ≠ d)
include hd
theorem on_pmul {p : Pt} (hp : On d p) (n : Nat) : On d (pmul d p n) := by
  induction n with
  | zero => exact on_O d
  | succ n ih => exact on_add hd ih hp
theorem pmul_add {p : Pt} (hp : On d p) (m n : Nat) : pmul d p (m + n) = padd d (pmul d p m) (pmul d p n) := by
  induction n with
  | zero => exact (padd_O d _).symm
  | succ n ih =>
    show padd d (pmul d p (m + n)) p = padd d (pmul d p m) (padd d (pmul d p n) p)
    rw [ih, padd_assoc hd (on_pmul hd hp m) (on_pmul hd hp n) hp]
theorem pmul_mul {p : Pt} (hp : On d p) (m n : Nat) : pmul d (pmul d p m) n = pmul d p (m * n) := by
  induction n with
  | zero => rfl
  | succ n ih =>
    show padd d (pmul d (pmul d p m) n) (pmul d p m) = pmul d p (m * n + m)
    rw [ih, pmul_add hd hp]
theorem padd_back {p q : Pt} (hp : On d p) (hq : On d q) : padd d (padd d q p) (pneg q) = p := by
  rw [padd_comm d q p, padd_assoc hd hp hq (on_neg hq), padd_neg hd hq, padd_O]
end

theorem pmul_one (d : F) (p : Pt) : pmul d p 1 = p := by
  show padd d pO p = p
  rw [padd_comm, padd_O]
theorem pmul_O (d : F) (n : Nat) : pmul d pO n = pO := by
  induction n with
  | zero => rfl
  | succ n ih => show padd d (pmul d pO n) pO = pO; rw [ih, padd_O]

/-! ## The ladder -/
structure St where
  x2 : F
  z2 : F
  x3 : F
  z3 : F
def a24 : F := toF 121665
def lstep (x x2 z2 x3 z3 : F) : St :=
  let aa := (x2 + z2) * (x2 + z2)
  let bb := (x2 - z2) * (x2 - z2)
  let e := aa - bb
  let da := (x3 - z3) * (x2 + z2)
  let cb := (x3 + z3) * (x2 - z2)
  ⟨aa * bb, e * (aa + a24 * e), (da + cb) * (da + cb), x * ((da - cb) * (da - cb))⟩
def St.turn (s : St) : St := ⟨s.x3, s.z3, s.x2, s.z2⟩
/-- one round: a bit -/
def lbit (x : F) (b : Nat) (s : St) : St :=
  if b = 0 then lstep x s.x2 s.z2 s.x3 s.z3 else (lstep x s.x3 s.z3 s.x2 s.z2).turn
/-- behind j rounds of n, from the highest bit on -/
def lst (x : F) (k n : Nat) : Nat → St
  | 0 => ⟨1, 0, x, 1⟩
  | j + 1 => lbit x (k / 2 ^ (n - 1 - j) % 2) (lst x k n j)
/-- x, so many times: n bits -/
def lad (n k : Nat) (x : F) : F := (lst x k n n).x2 * inv (lst x k n n).z2

/-- what stands for a point's y -/
def Rep (σ X Z : F) (q : Pt) : Prop := ∃ t, t ≠ 0 ∧ X = t * (σ * (1 + q.y)) ∧ Z = t * (1 - q.y)
/-- the point's x, on the curve or its twist -/
def toU (σ : F) (q : Pt) : F := σ * (1 + q.y) * inv (1 - q.y)

theorem rep_affine {σ X Z : F} {q : Pt} (h : Rep σ X Z q) : X * inv Z = toU σ q := by
  obtain ⟨t, ht, rfl, rfl⟩ := h
  unfold toU
  rw [inv_mul]
  have := mul_inv ht
  generalize inv t = i at this
  generalize inv (1 - q.y) = j
  generalize σ * (1 + q.y) = w
  grind

/-- the curve's numbers: sign, and g = 1/(σ (1 - d)), h = d g -/
structure Good (d σ g h : F) : Prop where
  nosq : ∀ s, s * s ≠ d
  kind : (σ = 1 ∧ g = a24 + 1 ∧ h = a24) ∨ (σ = -1 ∧ g = a24 ∧ h = a24 + 1)
  hg : g * (σ * (1 - d)) = 1
  hh : h = d * g

theorem Good.sq {d σ g h : F} (H : Good d σ g h) : σ * σ = 1 := by
  rcases H.kind with ⟨e, _⟩ | ⟨e, _⟩ <;> rw [e] <;> rfl

theorem dbl_num {d x y i : F} (hc : x * x + y * y = 1 + d * x * x * y * y) (hi : (1 - d * x * x * y * y) * i = 1) :
    (1 + (y * y - x * x) * i) * (1 - d * x * x * y * y) = 2 * (1 - x * x) ∧ (1 - (y * y - x * x) * i) * (1 - d * x * x * y * y) = 2 * (1 - y * y) := by
  constructor <;> grind

theorem dbl_x {d x y : F} (hc : x * x + y * y = 1 + d * x * x * y * y) : (1 - x * x) * (1 - d * y * y) = y * y * (1 - d) := by
  grind

theorem den3 {d : F} (hd : ∀ s, s * s ≠ d) (y : F) : 1 - d * y * y ≠ 0 := by
  intro h
  have hy : y ≠ 0 := by
    intro e; subst e
    have e : (1 : F) - d * 0 * 0 = 1 := by rw [Fin.mul_zero]; rfl
    rw [e] at h
    exact one_ne_zero h
  have := mul_inv hy
  refine hd (inv y) ?_
  generalize inv y = i at this
  have e : d * y * y = 1 := by grind
  have : d = (d * y * y) * (i * i) := by grind
  rw [this, e]; grind

/-- doubling -/
theorem step_dbl {d σ g h : F} (H : Good d σ g h) {q : Pt} (hq : On d q) {X Z : F} (hr : Rep σ X Z q) :
    Rep σ ((X + Z) * (X + Z) * ((X - Z) * (X - Z))) (((X + Z) * (X + Z) - (X - Z) * (X - Z)) * ((X + Z) * (X + Z) + a24 * ((X + Z) * (X + Z) - (X - Z) * (X - Z)))) (padd d q q) := by
  obtain ⟨t, ht, rfl, rfl⟩ := hr
  have hD := den2 H.nosq hq hq
  have hi := mul_inv hD
  have hN := den3 H.nosq q.y
  have hy : (padd d q q).y = (q.y * q.y - q.x * q.x) * inv (1 - dd d q q) := rfl
  unfold On at hq
  unfold dd at *
  unfold Rep
  generalize (padd d q q).y = Y at hy ⊢
  obtain ⟨x, y⟩ := q
  simp only at *
  generalize inv (1 - d * x * x * y * y) = i at *
  obtain ⟨n1, n2⟩ := dbl_num hq hi
  rw [← hy] at n1 n2
  have n3 := dbl_x hq
  have hσ := H.sq
  have hg := H.hg
  have hh := H.hh
  clear hy hi hq
  generalize hDD : 1 - d * x * x * y * y = D at *
  clear hDD
  have hg0 : g ≠ 0 := by
    intro e
    have e2 : g * (σ * (1 - d)) = 0 := by rw [e]; grind
    exact one_ne_zero (hg.symm.trans e2)
  have two : (2 : F) ≠ 0 := two_ne_zero
  have h8 : (8 : F) ≠ 0 := by decide
  refine ⟨8 * (t * t * (t * t)) * ((1 - d * y * y) * (D * g)), mul_ne_zero (mul_ne_zero h8 (mul_ne_zero (mul_ne_zero ht ht) (mul_ne_zero ht ht))) (mul_ne_zero hN (mul_ne_zero hD hg0)), ?_, ?_⟩
  · have e1 : 8 * (t * t * (t * t)) * ((1 - d * y * y) * (D * g)) * (σ * (1 + Y)) = 8 * (t * t * (t * t)) * (1 - d * y * y) * (g * σ) * ((1 + Y) * D) := by grind
    rw [e1, n1]
    have e2 : 8 * (t * t * (t * t)) * (1 - d * y * y) * (g * σ) * (2 * (1 - x * x)) = 16 * (t * t * (t * t)) * (g * σ) * ((1 - x * x) * (1 - d * y * y)) := by grind
    rw [e2, n3]
    have e3 : 16 * (t * t * (t * t)) * (g * σ) * (y * y * (1 - d)) = 16 * (t * t * (t * t)) * (y * y) * (g * (σ * (1 - d))) := by grind
    rw [e3, hg]
    clear e1 e2 e3 n1 n2 n3 hg hh hN hD
    rcases H.kind with ⟨e, _, _⟩ | ⟨e, _, _⟩ <;> subst e <;> grind
  · have e1 : 8 * (t * t * (t * t)) * ((1 - d * y * y) * (D * g)) * (1 - Y) = 8 * (t * t * (t * t)) * (1 - d * y * y) * g * ((1 - Y) * D) := by grind
    rw [e1, n2]
    have e2 : 8 * (t * t * (t * t)) * (1 - d * y * y) * g * (2 * (1 - y * y)) = 16 * (t * t * (t * t)) * (1 - y * y) * (g - (d * g) * (y * y)) := by grind
    rw [e2, ← hh]
    clear e1 e2 n1 n2 n3 hN hD hh hg
    rcases H.kind with ⟨e, e', e''⟩ | ⟨e, e', e''⟩ <;> subst e <;> subst e' <;> subst e'' <;> grind

theorem dif_num {d x y x' y' : F} (h1 : x * x + y * y = 1 + d * x * x * y * y) (h2 : x' * x' + y' * y' = 1 + d * x' * x' * y' * y') :
    ((1 - d * x * x' * y * y' + y * y' - x * x') * (1 + d * x * x' * y * y' + y * y' + x * x')) * ((y - y') * (y - y'))
    = ((1 - d * x * x' * y * y' - y * y' + x * x') * (1 + d * x * x' * y * y' - y * y' - x * x')) * ((y + y') * (y + y')) := by
  grind

theorem sq_zero {a : F} (h : a * a = 0) : a = 0 := (mul_eq_zero h).elim id id
theorem two_zero {y z : F} (h1 : y + z = 0) (h2 : y - z = 0) : y = 0 ∧ z = 0 := by
  have e1 : 2 * y = 0 := by grind
  have e2 : 2 * z = 0 := by grind
  exact ⟨(mul_eq_zero e1).resolve_left two_ne_zero, (mul_eq_zero e2).resolve_left two_ne_zero⟩

theorem dif_key {d xq y xr z S R i j : F} (hi : (1 - d * xq * xr * y * z) * i = 1) (hj : (1 + d * xq * xr * y * z) * j = 1)
    (hs : S = (y * z - xq * xr) * i) (hpy : R = (z * y + xr * xq) * j)
    (k : ((1 - d * xq * xr * y * z + y * z - xq * xr) * (1 + d * xq * xr * y * z + y * z + xq * xr)) * ((y - z) * (y - z))
      = ((1 - d * xq * xr * y * z - y * z + xq * xr) * (1 + d * xq * xr * y * z - y * z - xq * xr)) * ((y + z) * (y + z))) :
    ((1 + S) * (1 + R)) * ((y - z) * (y - z)) = ((1 - S) * (1 - R)) * ((y + z) * (y + z)) := by
  rw [show xr * xq = xq * xr from by grind] at hpy
  generalize d * xq * xr * y * z = D at *
  generalize xq * xr = X at *
  have e1 : 1 + S = (1 - D + y * z - X) * i := by grind
  have e2 : 1 - S = (1 - D - y * z + X) * i := by grind
  have e3 : 1 + R = (1 + D + y * z + X) * j := by grind
  have e4 : 1 - R = (1 + D - y * z - X) * j := by grind
  rw [e1, e2, e3, e4]
  have f1 : (1 - D + y * z - X) * i * ((1 + D + y * z + X) * j) * ((y - z) * (y - z)) = ((1 - D + y * z - X) * (1 + D + y * z + X) * ((y - z) * (y - z))) * (i * j) := by grind
  have f2 : (1 - D - y * z + X) * i * ((1 + D - y * z - X) * j) * ((y + z) * (y + z)) = ((1 - D - y * z + X) * (1 + D - y * z - X) * ((y + z) * (y + z))) * (i * j) := by grind
  rw [f1, f2, k]

theorem dif_prod (a b : F) : (1 - b * a) * (1 + b * a) = 1 - (a * a) * (b * b) := by grind

theorem dif_edge {d xq y xr z R j : F} (hq : xq * xq + y * y = 1 + d * xq * xq * y * y) (hr : xr * xr + z * z = 1 + d * xr * xr * z * z)
    (hj : (1 + d * xq * xr * y * z) * j = 1) (hpy : R = (z * y + xr * xq) * j) (hp1 : 1 - R ≠ 0) (hp2 : 1 + R ≠ 0) (h1 : y + z = 0) (h2 : y - z = 0) : False := by
  obtain ⟨rfl, rfl⟩ := two_zero h1 h2
  simp only [Fin.mul_zero, Fin.add_zero, Fin.zero_add, Fin.one_mul] at hq hr hj hpy
  subst hj
  rw [Fin.mul_one] at hpy
  have a5 := dif_prod xq xr
  rw [← hpy, hq, hr] at a5
  exact (mul_eq_zero (a5.trans rfl)).elim hp1 hp2

theorem dif_num1 {σ t u y z : F} (hk : σ = 1 ∨ σ = -1) :
    (((u * (σ * (1 + z)) - u * (1 - z)) * (t * (σ * (1 + y)) + t * (1 - y)) + (u * (σ * (1 + z)) + u * (1 - z)) * (t * (σ * (1 + y)) - t * (1 - y))) * ((u * (σ * (1 + z)) - u * (1 - z)) * (t * (σ * (1 + y)) + t * (1 - y)) + (u * (σ * (1 + z)) + u * (1 - z)) * (t * (σ * (1 + y)) - t * (1 - y))))
      = 16 * ((t * u) * (t * u)) * ((y + z) * (y + z)) := by
  rcases hk with e | e <;> subst e <;> grind
theorem dif_num2 {σ t u y z : F} (hk : σ = 1 ∨ σ = -1) :
    (((u * (σ * (1 + z)) - u * (1 - z)) * (t * (σ * (1 + y)) + t * (1 - y)) - (u * (σ * (1 + z)) + u * (1 - z)) * (t * (σ * (1 + y)) - t * (1 - y))) * ((u * (σ * (1 + z)) - u * (1 - z)) * (t * (σ * (1 + y)) + t * (1 - y)) - (u * (σ * (1 + z)) + u * (1 - z)) * (t * (σ * (1 + y)) - t * (1 - y))))
      = 16 * ((t * u) * (t * u)) * ((y - z) * (y - z)) := by
  rcases hk with e | e <;> subst e <;> grind

theorem dif_end {σ w x y z S R : F} (hσ : σ * σ = 1) (hw : w ≠ 0) (hx : x * (1 - R) = σ * (1 + R)) (hp1 : 1 - R ≠ 0) (hp2 : 1 + R ≠ 0)
    (k : ((1 + S) * (1 + R)) * ((y - z) * (y - z)) = ((1 - S) * (1 - R)) * ((y + z) * (y + z))) (hne : y + z = 0 → y - z = 0 → False) :
    ∃ T, T ≠ 0 ∧ w * ((y + z) * (y + z)) = T * (σ * (1 + S)) ∧ x * (w * ((y - z) * (y - z))) = T * (1 - S) := by
  have hσ0 : σ ≠ 0 := by intro e; rw [e] at hσ; exact one_ne_zero (by rw [← hσ, Fin.mul_zero])
  by_cases h : 1 + S = 0
  · have hS : 1 - S = 2 := by grind
    have hS0 : 1 - S ≠ 0 := by rw [hS]; exact two_ne_zero
    have hyz : y + z = 0 := by
      have : ((1 - S) * (1 - R)) * ((y + z) * (y + z)) = 0 := by rw [← k, h]; grind
      exact sq_zero ((mul_eq_zero this).resolve_left (mul_ne_zero hS0 hp1))
    have hyz' : y - z ≠ 0 := fun e => hne hyz e
    have hx0 : x ≠ 0 := by
      intro e; rw [e] at hx
      exact mul_ne_zero hσ0 hp2 (by rw [← hx]; grind)
    have hi := mul_inv hS0
    refine ⟨x * w * ((y - z) * (y - z)) * inv (1 - S), mul_ne_zero (mul_ne_zero (mul_ne_zero hx0 hw) (mul_ne_zero hyz' hyz')) (inv_ne_zero hS0), ?_, ?_⟩
    · rw [h, hyz]; grind
    · generalize inv (1 - S) = i at *
      generalize 1 - S = s at *
      clear k hx hS
      grind
  · have hi := mul_inv h
    have hyz : y + z ≠ 0 := by
      intro e
      have : ((1 + S) * (1 + R)) * ((y - z) * (y - z)) = 0 := by rw [k, e]; grind
      exact hne e (sq_zero ((mul_eq_zero this).resolve_left (mul_ne_zero h hp2)))
    refine ⟨w * ((y + z) * (y + z)) * (σ * inv (1 + S)), mul_ne_zero (mul_ne_zero hw (mul_ne_zero hyz hyz)) (mul_ne_zero hσ0 (inv_ne_zero h)), ?_, ?_⟩
    · generalize inv (1 + S) = i at *
      generalize 1 + S = s at *
      clear k hx
      have : w * ((y + z) * (y + z)) * (σ * i) * (σ * s) = w * ((y + z) * (y + z)) * (σ * σ) * (s * i) := by grind
      rw [this, hσ, hi]; grind
    · apply mul_left_cancel hp1
      have e1 : (1 - R) * (x * (w * ((y - z) * (y - z)))) = (x * (1 - R)) * (w * ((y - z) * (y - z))) := by grind
      have e2 : (1 - R) * (w * ((y + z) * (y + z)) * (σ * inv (1 + S)) * (1 - S)) = w * (σ * inv (1 + S)) * ((1 - S) * (1 - R) * ((y + z) * (y + z))) := by grind
      rw [e1, e2, hx, ← k]
      generalize inv (1 + S) = i at *
      generalize 1 + S = s at *
      have e3 : w * (σ * i) * (s * (1 + R) * ((y - z) * (y - z))) = w * σ * (1 + R) * ((y - z) * (y - z)) * (s * i) := by grind
      rw [e3, hi]; grind

/-- adding two points whose difference is known -/
theorem step_dif {d σ g h : F} (H : Good d σ g h) {q r p : Pt} (hq : On d q) (hr : On d r) (hp : padd d r (pneg q) = p) {x X2 Z2 X3 Z3 : F}
    (hx : x * (1 - p.y) = σ * (1 + p.y)) (hp1 : 1 - p.y ≠ 0) (hp2 : 1 + p.y ≠ 0) (h2 : Rep σ X2 Z2 q) (h3 : Rep σ X3 Z3 r) :
    Rep σ (((X3 - Z3) * (X2 + Z2) + (X3 + Z3) * (X2 - Z2)) * ((X3 - Z3) * (X2 + Z2) + (X3 + Z3) * (X2 - Z2)))
      (x * (((X3 - Z3) * (X2 + Z2) - (X3 + Z3) * (X2 - Z2)) * ((X3 - Z3) * (X2 + Z2) - (X3 + Z3) * (X2 - Z2)))) (padd d q r) := by
  obtain ⟨t, ht, rfl, rfl⟩ := h2
  obtain ⟨u, hu, rfl, rfl⟩ := h3
  have hD := den2 H.nosq hq hr
  have hi := mul_inv hD
  have hE := den1 H.nosq hq hr
  have hj := mul_inv hE
  have hs : (padd d q r).y = (q.y * r.y - q.x * r.x) * inv (1 - dd d q r) := rfl
  have hpy : p.y = (r.y * q.y + r.x * q.x) * inv (1 + dd d q r) := by
    rw [← hp]
    have e : 1 - dd d r (pneg q) = 1 + dd d q r := by unfold dd pneg; simp only; grind
    show (r.y * (pneg q).y - r.x * (pneg q).x) * inv (1 - dd d r (pneg q)) = _
    rw [e]
    unfold pneg
    simp only
    grind
  clear hp
  unfold Rep
  generalize (padd d q r).y = S at hs ⊢
  generalize p.y = R at *
  unfold dd at *
  unfold On at hq hr
  obtain ⟨xq, y⟩ := q
  obtain ⟨xr, z⟩ := r
  simp only at *
  have k := dif_num hq hr
  generalize inv (1 - d * xq * xr * y * z) = i at *
  generalize inv (1 + d * xq * xr * y * z) = j at *
  have hσ := H.sq
  have hk : σ = 1 ∨ σ = -1 := by rcases H.kind with ⟨e, _⟩ | ⟨e, _⟩ <;> simp [e]
  rw [dif_num1 hk, dif_num2 hk]
  exact dif_end hσ (mul_ne_zero (by decide) (mul_ne_zero (mul_ne_zero ht hu) (mul_ne_zero ht hu))) hx hp1 hp2 (dif_key hi hj hs hpy k) (dif_edge hq hr hj hpy hp1 hp2)

/-- x is the x of the point p -/
structure IsX (d σ g h x : F) (p : Pt) : Prop where
  good : Good d σ g h
  on : On d p
  hx : x * (1 - p.y) = σ * (1 + p.y)
  hp1 : 1 - p.y ≠ 0
  hp2 : 1 + p.y ≠ 0

/-- what the two pairs stand for: n times the point, and once more -/
def Inv (d σ : F) (p : Pt) (s : St) (n : Nat) : Prop := Rep σ s.x2 s.z2 (pmul d p n) ∧ Rep σ s.x3 s.z3 (pmul d p (n + 1))

theorem inv_start {d σ g h x : F} {p : Pt} (H : IsX d σ g h x p) : Inv d σ p ⟨1, 0, x, 1⟩ 0 := by
  have hσ := H.good.sq
  have hσ0 : σ ≠ 0 := by intro e; rw [e] at hσ; exact one_ne_zero (by rw [← hσ, Fin.mul_zero])
  constructor
  · have h2 := mul_inv (mul_ne_zero two_ne_zero hσ0)
    refine ⟨inv (2 * σ), inv_ne_zero (mul_ne_zero two_ne_zero hσ0), ?_, ?_⟩
    · show 1 = inv (2 * σ) * (σ * (1 + 1))
      have e : ∀ i : F, i * (σ * (1 + 1)) = 2 * σ * i := by intro i; grind
      rw [e]
      exact h2.symm
    · show (0 : F) = inv (2 * σ) * (1 - 1)
      rw [Fin.sub_self, Fin.mul_zero]
  · have h2 := mul_inv H.hp1
    refine ⟨inv (1 - p.y), inv_ne_zero H.hp1, ?_, ?_⟩
    · show x = inv (1 - p.y) * (σ * (1 + (pmul d p 1).y))
      rw [pmul_one, ← H.hx]
      generalize inv (1 - p.y) = i at *
      have : i * (x * (1 - p.y)) = x * ((1 - p.y) * i) := by grind
      rw [this, h2, Fin.mul_one]
    · show 1 = inv (1 - p.y) * (1 - (pmul d p 1).y)
      rw [pmul_one, Fin.mul_comm]
      exact h2.symm

theorem inv_step {d σ g h x : F} {p : Pt} (H : IsX d σ g h x p) {s : St} {n : Nat} (hi : Inv d σ p s n) (b : Nat) (hb : b = 0 ∨ b = 1) :
    Inv d σ p (lbit x b s) (2 * n + b) := by
  have hd := H.good.nosq
  have hn := on_pmul hd H.on n
  have hn1 := on_pmul hd H.on (n + 1)
  have hdiff : padd d (pmul d p (n + 1)) (pneg (pmul d p n)) = p := padd_back hd H.on hn
  have hsum : padd d (pmul d p n) (pmul d p (n + 1)) = pmul d p (2 * n + 1) := by
    rw [← pmul_add hd H.on]; congr 1; omega
  rcases hb with rfl | rfl
  · have e1 : lbit x 0 s = lstep x s.x2 s.z2 s.x3 s.z3 := rfl
    rw [e1]
    constructor
    · have := step_dbl H.good hn hi.1
      rw [← pmul_add hd H.on] at this
      rw [show 2 * n + 0 = n + n by omega]
      exact this
    · have := step_dif H.good hn hn1 hdiff H.hx H.hp1 H.hp2 hi.1 hi.2
      rw [hsum] at this
      exact this
  · have e1 : lbit x 1 s = (lstep x s.x3 s.z3 s.x2 s.z2).turn := rfl
    rw [e1]
    constructor
    · have := step_dif H.good hn hn1 hdiff H.hx H.hp1 H.hp2 hi.1 hi.2
      rw [hsum] at this
      unfold lstep St.turn
      simp only
      have c1 : ∀ a b c e : F, (a - b) * (c + e) + (a + b) * (c - e) = (c - e) * (a + b) + (c + e) * (a - b) := by intro a b c e; grind
      have c2 : ∀ a b c e : F, ((a - b) * (c + e) - (a + b) * (c - e)) * ((a - b) * (c + e) - (a + b) * (c - e)) = ((c - e) * (a + b) - (c + e) * (a - b)) * ((c - e) * (a + b) - (c + e) * (a - b)) := by intro a b c e; grind
      rw [c1, c2] at this
      exact this
    · have := step_dbl H.good hn1 hi.2
      rw [← pmul_add hd H.on] at this
      rw [show 2 * n + 1 + 1 = n + 1 + (n + 1) by omega]
      exact this

theorem inv_all {d σ g h x : F} {p : Pt} (H : IsX d σ g h x p) {k n : Nat} (hk : k < 2 ^ n) : ∀ j, j ≤ n → Inv d σ p (lst x k n j) (k / 2 ^ (n - j)) := by
  intro j
  induction j with
  | zero =>
    intro _
    rw [Nat.sub_zero, Nat.div_eq_of_lt hk]
    exact inv_start H
  | succ j ih =>
    intro hj
    have h1 := inv_step H (ih (by omega)) (k / 2 ^ (n - 1 - j) % 2) (by omega)
    have e : 2 * (k / 2 ^ (n - j)) + k / 2 ^ (n - 1 - j) % 2 = k / 2 ^ (n - (j + 1)) := by
      rw [show n - j = (n - 1 - j) + 1 by omega, Nat.pow_succ, ← Nat.div_div_eq_div_mul, show n - (j + 1) = n - 1 - j by omega]
      omega
    rw [e] at h1
    exact h1

/-- the ladder answers the multiple's x -/
theorem lad_point {d σ g h x : F} {p : Pt} (H : IsX d σ g h x p) {k n : Nat} (hk : k < 2 ^ n) : lad n k x = toU σ (pmul d p k) := by
  have := (inv_all H hk n (Nat.le_refl n)).1
  rw [Nat.sub_self, Nat.pow_zero, Nat.div_one] at this
  exact rep_affine this

/-- of 0 it answers 0 -/
theorem lad_zero {n k : Nat} (hn : 0 < n) : lad n k 0 = 0 := by
  have step : ∀ s : St, s.x2 * s.z2 = 0 → s.x3 * s.z3 = 0 → ∀ b, (lbit 0 b s).z2 = 0 ∧ (lbit 0 b s).z3 = 0 := by
    intro s h1 h2 b
    have f : ∀ a c : F, a * c = 0 → ((a + c) * (a + c) - (a - c) * (a - c)) = 0 := by
      intro a c h
      have : (a + c) * (a + c) - (a - c) * (a - c) = 4 * (a * c) := by grind
      rw [this, h, Fin.mul_zero]
    unfold lbit lstep St.turn
    split
    · simp only
      rw [f _ _ h1]
      exact ⟨Fin.zero_mul _, Fin.zero_mul _⟩
    · simp only
      rw [f _ _ h2]
      exact ⟨Fin.zero_mul _, Fin.zero_mul _⟩
  have all : ∀ j, (lst 0 k n j).x2 * (lst 0 k n j).z2 = 0 ∧ (lst 0 k n j).x3 * (lst 0 k n j).z3 = 0 ∧ (0 < j → (lst 0 k n j).z2 = 0) := by
    intro j
    induction j with
    | zero => exact ⟨rfl, rfl, fun h => by omega⟩
    | succ j ih =>
      obtain ⟨a, b⟩ := step _ ih.1 ih.2.1 (k / 2 ^ (n - 1 - j) % 2)
      have a' : (lst 0 k n (j + 1)).z2 = 0 := a
      have b' : (lst 0 k n (j + 1)).z3 = 0 := b
      rw [a', b']
      exact ⟨Fin.mul_zero _, Fin.mul_zero _, fun _ => rfl⟩
  unfold lad
  rw [(all n).2.2 hn, inv_zero, Fin.mul_zero]

/-! ## Each x other than 0 is a point's -/
theorem euler_ab : pw (toF (121665 * 121666)) ((P - 1) / 2) = -1 := by
  rw [pw_toF]
  apply Fin.ext
  rw [toF_val, pm_eq 255 (by decide) (by decide)]
  decide +kernel
theorem nosq_ab (s : F) : s * s ≠ a24 * (a24 + 1) := by
  intro h
  have h0 : a24 * (a24 + 1) ≠ 0 := by decide
  have e := euler_sq h0 h
  have e2 : a24 * (a24 + 1) = toF (121665 * 121666) := by decide
  rw [e2, euler_ab] at e
  exact neg_one_ne e
theorem a24_ne : a24 ≠ 0 := by decide
theorem a24_ne' : a24 + 1 ≠ 0 := by decide

theorem good1 : Good (a24 * inv (a24 + 1)) 1 (a24 + 1) a24 := by
  have hi := mul_inv a24_ne'
  refine ⟨fun s hs => nosq_ab (s * (a24 + 1)) ?_, Or.inl ⟨rfl, rfl, rfl⟩, ?_, ?_⟩
  · have : s * (a24 + 1) * (s * (a24 + 1)) = s * s * ((a24 + 1) * (a24 + 1)) := by grind
    rw [this, hs]
    grind
  · grind
  · grind
theorem good2 : Good ((a24 + 1) * inv a24) (-1) a24 (a24 + 1) := by
  have hi := mul_inv a24_ne
  refine ⟨fun s hs => nosq_ab (s * a24) ?_, Or.inr ⟨rfl, rfl, rfl⟩, ?_, ?_⟩
  · have : s * a24 * (s * a24) = s * s * (a24 * a24) := by grind
    rw [this, hs]
    grind
  · grind
  · grind

/-- x^2 + 486662 x + 1 -/
def qq (x : F) : F := x * x + (4 * a24 + 2) * x + 1
theorem qq_ne (x : F) : qq x ≠ 0 := by
  intro h
  -- (2 x + A)^2 = A^2 - 4 = 16 a24 (a24 + 1)
  have h4 : (4 : F) ≠ 0 := by decide
  have hi := mul_inv h4
  refine nosq_ab ((2 * x + (4 * a24 + 2)) * inv 4) ?_
  generalize inv 4 = i at hi
  unfold qq at h
  generalize a24 = a at *
  have : (2 * x + (4 * a + 2)) * i * ((2 * x + (4 * a + 2)) * i) = (4 * (x * x + (4 * a + 2) * x + 1) + 16 * (a * (a + 1))) * (i * i) := by grind
  rw [this, h]
  grind

theorem on_make {a x q iq w y i : F} (hq : q * iq = 1) (hqd : q = x * x + (4 * a + 2) * x + 1) (hi : (x + 1) * i = 1) (hy : y = (x - 1) * i)
    (hw : w * w = 4 * (a + 1) * x * iq) {c d : F} (hc : (a + 1) * c = 1) (hd : d = a * c) : w * w + y * y = 1 + d * (w * w) * (y * y) := by
  -- both sides times q (x + 1)^2
  have e1 : y * y = ((x - 1) * (x - 1)) * (i * i) := by rw [hy]; grind
  have e2 : d * (w * w) = 4 * a * x * iq := by
    rw [hw, hd]
    have : a * c * (4 * (a + 1) * x * iq) = 4 * a * x * iq * ((a + 1) * c) := by grind
    rw [this, hc]; grind
  rw [e2, hw, e1]
  have k : 4 * (a + 1) * x * ((x + 1) * (x + 1)) + ((x - 1) * (x - 1)) * q = q * ((x + 1) * (x + 1)) + 4 * a * x * ((x - 1) * (x - 1)) := by rw [hqd]; grind
  have k2 : (4 * (a + 1) * x * ((x + 1) * (x + 1)) + ((x - 1) * (x - 1)) * q) * (iq * (i * i)) = (q * ((x + 1) * (x + 1)) + 4 * a * x * ((x - 1) * (x - 1))) * (iq * (i * i)) := by rw [k]
  have l1 : (4 * (a + 1) * x * ((x + 1) * (x + 1)) + ((x - 1) * (x - 1)) * q) * (iq * (i * i)) = 4 * (a + 1) * x * iq * (((x + 1) * i) * ((x + 1) * i)) + (x - 1) * (x - 1) * (i * i) * (q * iq) := by grind
  have l2 : (q * ((x + 1) * (x + 1)) + 4 * a * x * ((x - 1) * (x - 1))) * (iq * (i * i)) = (q * iq) * (((x + 1) * i) * ((x + 1) * i)) + 4 * a * x * iq * ((x - 1) * (x - 1) * (i * i)) := by grind
  rw [l1, l2, hq, hi] at k2
  simp only [Fin.mul_one] at k2
  exact k2

theorem sq_make {s q iq u : F} (hq : q * iq = 1) (hs : s * s = u * q) : 2 * s * iq * (2 * s * iq) = 4 * u * iq := by
  have : 2 * s * iq * (2 * s * iq) = 4 * (s * s) * (iq * iq) := by grind
  rw [this, hs]
  have : 4 * (u * q) * (iq * iq) = 4 * u * iq * (q * iq) := by grind
  rw [this, hq, Fin.mul_one]

theorem sum_make {x i : F} (hi : (x + 1) * i = 1) : 1 - (x - 1) * i = 2 * i ∧ 1 + (x - 1) * i = 2 * (x * i) := by
  constructor <;> grind

theorem neg_edge {a s i : F} (hi : 2 * i = 1) (hs : s * s = (a + 1) * (-1 * (-1 * -1 + (4 * a + 2) * -1 + 1))) : s * i * (s * i) = a * (a + 1) := by
  have : s * i * (s * i) = s * s * (i * i) := by grind
  rw [this, hs]
  grind

theorem nosq_neg (s : F) : s * s ≠ (-1 - a24) * (-1 - a24 + 1) := by
  intro h
  refine nosq_ab s (h.trans ?_)
  generalize a24 = a
  grind

theorem euler_other {x q : F} (h0 : (a24 + 1) * (x * q) ≠ 0) (e : pw ((a24 + 1) * (x * q)) ((P - 1) / 2) = -1) : pw (a24 * (x * q)) ((P - 1) / 2) = 1 := by
  have hxq : x * q ≠ 0 := fun e => h0 (by rw [e, Fin.mul_zero])
  have e2 : a24 * (a24 + 1) = toF (121665 * 121666) := by decide
  have k : (a24 + 1) * (x * q) * (a24 * (x * q)) = (a24 * (a24 + 1)) * ((x * q) * (x * q)) := by
    generalize a24 = a
    generalize x * q = z
    grind
  have k2 : pw ((a24 + 1) * (x * q) * (a24 * (x * q))) ((P - 1) / 2) = -1 := by
    rw [k, pw_mul, e2, euler_ab, euler_sq (mul_ne_zero hxq hxq) rfl, Fin.mul_one]
  rw [pw_mul, e] at k2
  generalize pw (a24 * (x * q)) ((P - 1) / 2) = z at k2
  grind

theorem point_of {x : F} (hx : x ≠ 0) : ∃ d σ g h p, IsX d σ g h x p := by
  have hq := qq_ne x
  have hiq := mul_inv hq
  have h0 : (a24 + 1) * (x * qq x) ≠ 0 := mul_ne_zero a24_ne' (mul_ne_zero hx hq)
  rcases euler_cases h0 with e | e
  · obtain ⟨s, hs⟩ := sqrt_of e
    have h1 : x + 1 ≠ 0 := by
      intro h
      have e1 : x = -1 := by grind
      rw [e1] at hs
      exact nosq_ab _ (neg_edge (mul_inv two_ne_zero) hs)
    have hi := mul_inv h1
    obtain ⟨m1, m2⟩ := sum_make hi
    have n1 : 1 - (x - 1) * inv (x + 1) ≠ 0 := by rw [m1]; exact mul_ne_zero two_ne_zero (inv_ne_zero h1)
    have n2 : 1 + (x - 1) * inv (x + 1) ≠ 0 := by rw [m2]; exact mul_ne_zero two_ne_zero (mul_ne_zero hx (inv_ne_zero h1))
    refine ⟨_, _, _, _, ⟨2 * s * inv (qq x), (x - 1) * inv (x + 1)⟩, good1, ?_, ?_, n1, n2⟩
    · have hw := sq_make (s := s) (u := (a24 + 1) * x) hiq (by rw [hs]; generalize a24 = a; generalize qq x = q; grind)
      have := on_make (a := a24) (x := x) hiq rfl hi rfl (w := 2 * s * inv (qq x)) (by rw [hw]; generalize a24 = a; generalize qq x = q; grind) (mul_inv a24_ne') rfl
      unfold On
      simp only
      rw [this]
      generalize a24 * inv (a24 + 1) = d
      generalize 2 * s * inv (qq x) = w
      generalize (x - 1) * inv (x + 1) = y
      grind
    · simp only
      rw [m1, m2]
      generalize inv (x + 1) = i
      grind
  · obtain ⟨s, hs⟩ := sqrt_of (euler_other h0 e)
    -- the twist: at minus x
    have h1 : -x + 1 ≠ 0 := by
      intro h
      have e1 : x = 1 := by grind
      rw [e1] at hs
      refine nosq_ab (s * inv 2) ?_
      have hi := mul_inv two_ne_zero
      have : ∀ i : F, s * i * (s * i) = s * s * (i * i) := by intro i; grind
      rw [this, hs]
      unfold qq
      generalize inv 2 = i at *
      generalize a24 = a
      clear this hs
      grind
    have hi := mul_inv h1
    obtain ⟨m1, m2⟩ := sum_make hi
    have hx' : -x ≠ 0 := by intro h; apply hx; grind
    have n1 : 1 - (-x - 1) * inv (-x + 1) ≠ 0 := by rw [m1]; exact mul_ne_zero two_ne_zero (inv_ne_zero h1)
    have n2 : 1 + (-x - 1) * inv (-x + 1) ≠ 0 := by rw [m2]; exact mul_ne_zero two_ne_zero (mul_ne_zero hx' (inv_ne_zero h1))
    refine ⟨_, _, _, _, ⟨2 * s * inv (qq x), (-x - 1) * inv (-x + 1)⟩, good2, ?_, ?_, n1, n2⟩
    · have hw := sq_make (s := s) (u := a24 * x) hiq (by rw [hs]; generalize a24 = a; generalize qq x = q; grind)
      have := on_make (a := -1 - a24) (x := -x) hiq (by unfold qq; generalize a24 = a; grind) hi rfl (w := 2 * s * inv (qq x))
        (by rw [hw]; generalize a24 = a; generalize inv (qq x) = q; grind) (c := - inv a24) (by have := mul_inv a24_ne; generalize inv a24 = j at *; generalize a24 = a at *; grind) rfl
      unfold On
      simp only
      rw [this]
      have e3 : (-1 - a24) * -inv a24 = (a24 + 1) * inv a24 := by generalize inv a24 = j; generalize a24 = a; grind
      rw [e3]
      generalize (a24 + 1) * inv a24 = d
      generalize 2 * s * inv (qq x) = w
      generalize (-x - 1) * inv (-x + 1) = y
      grind
    · simp only
      rw [m1, m2]
      generalize inv (-x + 1) = i
      grind
end Go.Proofs.Ythgefjgbkhkmgaa.Sap
