/-
  The document's numbers: sixteen digits; in plain words.
-/
import Derived.Test.YthgefjgbkhkmgaaKeyE
namespace Go.Proofs.Ythgefjgbkhkmgaa.Ev
open Go Go.RowKit
open Sap (F P toF)

/-- a condition as a truth value; nothing reckons it -/
noncomputable def ifP (p : Prop) : Bool := @decide p (Classical.propDecidable p)
theorem ifP_of {p : Prop} (h : p) : ifP p = true := by unfold ifP; exact @decide_eq_true p (Classical.propDecidable p) h
theorem of_ifP {p : Prop} (h : ifP p = true) : p := by unfold ifP at h; exact @of_decide_eq_true p (Classical.propDecidable p) h

/-- digits as a number, the lowest first -/
def dn (f : Nat → Int) : Nat → Nat → Int
  | _, 0 => 0
  | j, n + 1 => f j + 65536 * dn f (j + 1) n
theorem dn_step (f : Nat → Int) (j n : Nat) : dn f j (n + 1) = f j + 65536 * dn f (j + 1) n := rfl
def numD (n : Nat) : Nat → Int := fun j => ((n / 65536 ^ j % 65536 : Nat) : Int)
def isD (f : Nat → Int) : Prop := ∀ j, j < 16 → 0 ≤ f j ∧ f j < 65536
def dOf (x : Value) : Nat → Int := fun j => lim x j
def nI (x : Value) : Int := dn (dOf x) 0 16
/-- a digit turned -/
def fset (f : Nat → Int) (i : Nat) (v : Int) : Nat → Int := fun j => match Nat.beq j i with
  | true => v
  | false => f j
theorem fset_same (f : Nat → Int) (i : Nat) (v : Int) : fset f i v i = v := by unfold fset; rw [Nat.beq_refl]
theorem fset_other (f : Nat → Int) {i j : Nat} (v : Int) (h : j ≠ i) : fset f i v j = f j := by
  unfold fset
  split
  · rename_i hb; exact absurd (Nat.eq_of_beq_eq_true hb) h
  · rfl

theorem p16_succ (n : Nat) : (65536 : Int) ^ (n + 1) = 65536 * 65536 ^ n := by rw [Int.pow_succ, Int.mul_comm]
theorem p16_pos (n : Nat) : (0 : Int) < 65536 ^ n := Int.pow_pos (by decide)
theorem p16_16 : (65536 : Int) ^ 16 = 115792089237316195423570985008687907853269984665640564039457584007913129639936 := by decide
theorem dn_range {f : Nat → Int} : ∀ (n j : Nat), (∀ i, j ≤ i → i < j + n → 0 ≤ f i ∧ f i < 65536) → 0 ≤ dn f j n ∧ dn f j n < 65536 ^ n := by
  intro n
  induction n with
  | zero => intro j _; exact ⟨Int.le_refl 0, by show (0 : Int) < 1; decide⟩
  | succ n ih =>
    intro j h
    obtain ⟨h1, h2⟩ := ih (j + 1) fun i hi hj => h i (by omega) (by omega)
    obtain ⟨b1, b2⟩ := h j (by omega) (by omega)
    simp only [dn]
    rw [p16_succ]
    generalize (65536 : Int) ^ n = p at *
    omega
theorem dn_congr {f g : Nat → Int} : ∀ {n i : Nat}, (∀ j, i ≤ j → j < i + n → f j = g j) → dn f i n = dn g i n := by
  intro n
  induction n with
  | zero => intros; rfl
  | succ n ih =>
    intro i h
    simp only [dn]
    rw [h i (by omega) (by omega), ih fun j h1 h2 => h j (by omega) (by omega)]
theorem dn_add (f : Nat → Int) : ∀ (m n j : Nat), dn f j (m + n) = dn f j m + 65536 ^ m * dn f (j + m) n := by
  intro m
  induction m with
  | zero => intro n j; simp [dn]
  | succ m ih =>
    intro n j
    rw [show m + 1 + n = m + n + 1 by omega]
    simp only [dn]
    rw [ih n (j + 1), p16_succ, show j + 1 + m = j + (m + 1) by omega]
    generalize (65536 : Int) ^ m = p
    generalize dn f (j + 1) m = a
    generalize dn f (j + (m + 1)) n = b
    grind
theorem dn_succ (f : Nat → Int) (n j : Nat) : dn f j (n + 1) = dn f j n + 65536 ^ n * f (j + n) := by
  rw [dn_add f n 1 j]
  simp [dn]
theorem dn_digits (m : Nat) : ∀ (n j : Nat), dn (numD m) j n = ((m / 65536 ^ j % 65536 ^ n : Nat) : Int) := by
  intro n
  induction n with
  | zero => intro j; simp [dn, Nat.mod_one]
  | succ n ih =>
    intro j
    simp only [dn]
    rw [ih (j + 1)]
    have e1 : 65536 ^ (n + 1) = 65536 * 65536 ^ n := by rw [Nat.pow_succ, Nat.mul_comm]
    have e2 : m / 65536 ^ (j + 1) = m / 65536 ^ j / 65536 := by rw [Nat.pow_succ, Nat.div_div_eq_div_mul]
    rw [e1, Nat.mod_mul, e2]
    unfold numD
    omega
theorem isD_num (n : Nat) : isD (numD n) := fun j _ => by unfold numD; omega
/-- digits are those of their number -/
theorem digit_of {f : Nat → Int} (hf : isD f) {j : Nat} (hj : j < 16) : f j = numD (dn f 0 16).toNat j := by
  have h := dn_add f j (16 - j) 0
  rw [show j + (16 - j) = 16 by omega, Nat.zero_add, show 16 - j = (15 - j) + 1 by omega, dn_step f j (15 - j)] at h
  obtain ⟨a0, a1⟩ := dn_range (f := f) j 0 fun i _ hi => hf i (by omega)
  obtain ⟨b0, b1⟩ := hf j hj
  obtain ⟨c0, c1⟩ := dn_range (f := f) (15 - j) (j + 1) fun i _ hi => hf i (by omega)
  obtain ⟨d0, d1⟩ := dn_range (f := f) 16 0 fun i _ hi => hf i (by omega)
  unfold numD
  generalize dn f 0 16 = N at *
  generalize dn f (j + 1) (15 - j) = r at *
  have hN : ((N.toNat / 65536 ^ j % 65536 : Nat) : Int) = N / 65536 ^ j % 65536 := by
    obtain ⟨m, rfl⟩ := Int.eq_ofNat_of_zero_le d0
    simp
  rw [hN, h, Int.add_mul_ediv_left _ _ (Int.ne_of_gt (p16_pos j)), Int.ediv_eq_zero_of_lt a0 a1]
  omega
theorem cells_congr {k : IntKind} {f g : Nat → Int} : ∀ {n i : Nat}, (∀ j, i ≤ j → j < i + n → f j = g j) → cellsOf k f n i = cellsOf k g n i := by
  intro n
  induction n with
  | zero => intros; rfl
  | succ n ih =>
    intro i h
    simp only [cellsOf]
    rw [h i (by omega) (by omega), ih fun j h1 h2 => h j (by omega) (by omega)]
theorem vN_congr {f g : Nat → Int} (h : ∀ j, j < 16 → f j = g j) : vN f = vN g := by
  show Value.agg _ = Value.agg _
  rw [cells_congr fun j _ hj => h j (by omega)]
theorem vN_of {f : Nat → Int} (hf : isD f) : vN f = vN (numD (dn f 0 16).toNat) := vN_congr fun _ hj => digit_of hf hj
theorem lim_vN {f : Nat → Int} {j : Nat} (h : j < 16) : lim (vN f) j = f j := lim_arr h
theorem nI_vN (f : Nat → Int) : nI (vN f) = dn f 0 16 := dn_congr fun j _ hj => lim_vN (by omega)
theorem isD_vN {f : Nat → Int} (hf : isD f) : isD (dOf (vN f)) := fun j hj => by
  show 0 ≤ lim (vN f) j ∧ lim (vN f) j < 65536
  rw [lim_vN hj]; exact hf j hj
theorem nI_num {n : Nat} (h : n < 115792089237316195423570985008687907853269984665640564039457584007913129639936) : nI (vN (numD n)) = n := by
  rw [nI_vN, dn_digits n 16 0]
  have e : (65536 : Nat) ^ 16 = 115792089237316195423570985008687907853269984665640564039457584007913129639936 := by decide
  rw [e, Nat.pow_zero, Nat.div_one, Nat.mod_eq_of_lt h]

/-! ## Numbers of the field -/
/-- the row of a number of the field -/
def vNum (a : F) : Value := vN (numD a.val)
def NF (x : Value) : F := FI (nI x)
/-- a row as it must be -/
def can (x : Value) : Prop := x = vNum (NF x)
theorem NF_vNum (a : F) : NF (vNum a) = a := by
  have h : a.val < P := a.isLt
  have h1 : P = 57896044618658097711785492504343953926634992332820282019728792003956564819949 := rfl
  unfold NF vNum
  rw [nI_num (by omega), FI_nat, Sap.toF_self]
theorem can_vNum (a : F) : can (vNum a) := by unfold can; rw [NF_vNum]
theorem vNum_inj {a b : F} (h : vNum a = vNum b) : a = b := by rw [← NF_vNum a, h, NF_vNum]
theorem can_isD {x : Value} (h : can x) : isD (dOf x) := by rw [h]; exact isD_vN (isD_num _)
theorem can_nI {x : Value} (h : can x) : nI x = ((NF x).val : Int) := by
  have h2 : (NF x).val < P := (NF x).isLt
  have h1 : P = 57896044618658097711785492504343953926634992332820282019728792003956564819949 := rfl
  conv => lhs; rw [h]
  unfold vNum
  rw [nI_num (by omega)]
end Go.Proofs.Ythgefjgbkhkmgaa.Ev
