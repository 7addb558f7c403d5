/-
  Keys compared, in plain words.
-/
import Derived.Test.YthgefjgbkhkmgaaSwapL
namespace Go.Proofs.Ythgefjgbkhkmgaa.Ev
open Go Go.RowKit
open Sap (F P toF)

theorem one_val : bnd one LL ∧ FV one = 1 := by
  have := small_lim 1 (by decide) (by decide) .u32
  exact ⟨this.1, by rw [show FV one = FI 1 from this.2, FI_one]⟩
theorem eqL_hn {k k' : IntKind} {f g : Nat → Int} : ∀ {n i : Nat}, eqL (cellsOf k f n i) (cellsOf k' g n i) = true → hn f i n = hn g i n := by
  intro n
  induction n with
  | zero => intros; rfl
  | succ n ih =>
    intro i h
    simp only [cellsOf, eqL, Bool.and_eq_true, beq_iff_eq] at h
    simp only [hn]
    rw [h.1, ih h.2]
theorem eqV_num {f g : Nat → Int} (h : eqV (vK f) (vK g) = true) : numK f = numK g := eqL_hn h
theorem hn_congr {f g : Nat → Int} : ∀ {n i : Nat}, (∀ j, i ≤ j → j < i + n → f j = g j) → hn f i n = hn g i n := by
  intro n
  induction n with
  | zero => intros; rfl
  | succ n ih =>
    intro i h
    simp only [hn]
    rw [h i (by omega) (by omega), ih fun j h1 h2 => h j (by omega) (by omega)]
theorem F_lt (a : F) : a.val < 57896044618658097711785492504343953926634992332820282019728792003956564819949 := a.isLt
/-- keys of numbers are one where the numbers are -/
theorem eqV_keyN (a b : F) : eqV (keyN a.val) (keyN b.val) = decide (a = b) := by
  by_cases h : a = b
  · subst h
    rw [eqV_refl, decide_eq_true rfl]
  · rw [decide_eq_false h]
    cases hc : eqV (keyN a.val) (keyN b.val) with
    | false => rfl
    | true =>
      exfalso
      rw [keyN_eq, keyN_eq] at hc
      have h1 := eqV_num hc
      rw [numK_dig (by have := F_lt a; omega), numK_dig (by have := F_lt b; omega)] at h1
      apply h
      apply Fin.ext
      omega
/-- the keys of two elements are one where they stand for one number -/
theorem eqV_key {x y : Value} (hx : bnd x LL) (hy : bnd y LL) : eqV (keyV x) (keyV y) = decide (FV x = FV y) := by
  rw [key_FV hx, key_FV hy, eqV_keyN]
theorem key_eq {x y : Value} (hx : bnd x LL) (hy : bnd y LL) (h : FV x = FV y) : eqV (keyV x) (keyV y) = true := by
  rw [eqV_key hx hy, decide_eq_true h]
theorem zeroK_is : zeroK = keyN (0 : F).val := by
  show vK (fun _ => 0) = vK (digN 0)
  congr 1
  funext j
  show (0 : Int) = ((0 / 2 ^ (8 * j) % 256 : Nat) : Int)
  rw [Nat.zero_div]; rfl
theorem key_zero {x : Value} (hx : bnd x LL) (h : FV x = 0) : eqV (keyV x) zeroK = true := by
  rw [key_FV hx, zeroK_is, eqV_keyN, decide_eq_true h]
theorem key_zero' {x : Value} (hx : bnd x LL) : eqV (keyV x) zeroK = decide (FV x = 0) := by
  rw [key_FV hx, zeroK_is, eqV_keyN]

/-! ## Loose -/
theorem bnd_loose {x : Value} (h0 : 0 ≤ lim x 0 ∧ 0 ≤ lim x 1 ∧ 0 ≤ lim x 2 ∧ 0 ≤ lim x 3 ∧ 0 ≤ lim x 4) (h : looseB x = true) : bnd x LL := by
  unfold looseB allB at h
  simp only [Bool.and_eq_true, Bool.not_eq_true', decide_eq_false_iff_not] at h
  obtain ⟨a, b, c, d, e⟩ := h
  obtain ⟨a', b', c', d', e'⟩ := h0
  unfold bnd LL
  refine ⟨⟨a', by omega⟩, ⟨b', by omega⟩, ⟨c', by omega⟩, ⟨d', by omega⟩, ⟨e', by omega⟩⟩
/-- limbs as they may stand in the memory -/
def isE (f : Nat → Int) : Prop := ∀ j, j < 5 → 0 ≤ f j ∧ f j < 18446744073709551616
theorem lim_vE {f : Nat → Int} {j : Nat} (h : j < 5) : lim (vE f) j = f j := lim_arr h
theorem loose_of {f : Nat → Int} (hf : isE f) (h : looseB (vE f) = true) : bnd (vE f) LL :=
  bnd_loose ⟨by rw [lim_vE (by decide)]; exact (hf 0 (by decide)).1, by rw [lim_vE (by decide)]; exact (hf 1 (by decide)).1, by rw [lim_vE (by decide)]; exact (hf 2 (by decide)).1,
    by rw [lim_vE (by decide)]; exact (hf 3 (by decide)).1, by rw [lim_vE (by decide)]; exact (hf 4 (by decide)).1⟩ h
theorem u64_vE {f : Nat → Int} (hf : isE f) : bnd (vE f) U64 := by
  have h0 := hf 0 (by decide)
  have h1 := hf 1 (by decide)
  have h2 := hf 2 (by decide)
  have h3 := hf 3 (by decide)
  have h4 := hf 4 (by decide)
  unfold bnd U64
  rw [lim_vE (by decide), lim_vE (by decide), lim_vE (by decide), lim_vE (by decide), lim_vE (by decide)]
  refine ⟨⟨h0.1, by omega⟩, ⟨h1.1, by omega⟩, ⟨h2.1, by omega⟩, ⟨h3.1, by omega⟩, ⟨h4.1, by omega⟩⟩
end Go.Proofs.Ythgefjgbkhkmgaa.Ev
