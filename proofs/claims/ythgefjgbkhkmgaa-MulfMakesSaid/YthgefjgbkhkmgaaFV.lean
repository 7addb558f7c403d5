/-
  Layer 2 in plain words: what limbs stand for in the field of the numbers modulo the modulus.
-/
import Derived.Test.YthgefjgbkhkmgaaKeyB
import Derived.Test.YthgefjgbkhkmgaaField
namespace Go.Proofs.Ythgefjgbkhkmgaa.Ev
open Go Go.RowKit
open Sap (F P toF toF_eq toF_add toF_mul toF_val)

/-- a whole number in the field -/
def FI (v : Int) : F := toF (v % PP).toNat
theorem FI_val (v : Int) : (FI v).val = (v % PP).toNat := by
  unfold FI
  rw [toF_val]
  unfold P PP
  omega
theorem FI_eq {a b : Int} (h : a % PP = b % PP) : FI a = FI b := by unfold FI; rw [h]
theorem FI_sub_mul (a k : Int) : FI (a - PP * k) = FI a := FI_eq (by unfold PP; omega)
theorem FI_add (a b : Int) : FI (a + b) = FI a + FI b := by
  unfold FI
  rw [← toF_add, toF_eq]
  unfold P PP
  omega
theorem FI_mul (a b : Int) : FI (a * b) = FI a * FI b := by
  unfold FI
  rw [← toF_mul, toF_eq, Int.mul_emod]
  have ha : ((a % PP).toNat : Int) = a % PP := by unfold PP; omega
  have hb : ((b % PP).toNat : Int) = b % PP := by unfold PP; omega
  rw [← ha, ← hb]
  generalize (a % PP).toNat = m
  generalize (b % PP).toNat = n
  rw [← Int.natCast_mul]
  simp only [Int.toNat_natCast]
  generalize m * n = q
  unfold P PP
  omega
theorem FI_sub (a b : Int) : FI (a - b) = FI a - FI b := by
  have h := FI_add (a - b) b
  rw [show a - b + b = a by omega] at h
  rw [h]
  grind
theorem FI_nat (n : Nat) : FI (n : Int) = toF n := by
  unfold FI
  rw [toF_eq]
  unfold P PP
  omega
theorem FI_zero : FI 0 = 0 := rfl
theorem FI_one : FI 1 = 1 := rfl

/-- what the limbs stand for -/
def FV (x : Value) : F := FI (valE x)
theorem FV_add {x y : Value} (hx : bnd x LL) (hy : bnd y LL) : FV (addV x y) = FV x + FV y := by
  obtain ⟨⟨k, h⟩, _⟩ := add_val hx hy
  unfold FV
  rw [h, FI_sub_mul, FI_add]
theorem FV_sub {x y : Value} (hx : bnd x LL) (hy : bnd y LL) : FV (subV x y) = FV x - FV y := by
  obtain ⟨⟨k, h⟩, _⟩ := sub_val hx hy
  unfold FV
  rw [h, FI_sub_mul, FI_sub]
theorem bnd_LL {x : Value} (h : bnd x TT) : bnd x LL := bnd_mono h (by decide)
theorem bnd_add {x y : Value} (hx : bnd x LL) (hy : bnd y LL) : bnd (addV x y) LL := bnd_LL (add_val hx hy).2
theorem bnd_sub {x y : Value} (hx : bnd x LL) (hy : bnd y LL) : bnd (subV x y) LL := bnd_LL (sub_val hx hy).2
/-- the bytes of an element -/
theorem key_FV {x : Value} (h : bnd x LL) : keyV x = keyN (FV x).val := by
  rw [FV, FI_val]
  exact keyV_val (bnd_mono h (by decide))

theorem bnd_zE : bnd (ints [0, 0, 0, 0, 0]) LL := by
  refine ⟨⟨?_, ?_⟩, ⟨?_, ?_⟩, ⟨?_, ?_⟩, ⟨?_, ?_⟩, ⟨?_, ?_⟩⟩ <;> decide
theorem FV_zE : FV (ints [0, 0, 0, 0, 0]) = 0 := rfl
theorem small_lim (n : Int) (h0 : 0 ≤ n) (h1 : n < 4294967296) (k : IntKind) : bnd (smallV (.int k n)) LL ∧ FV (smallV (.int k n)) = FI n := by
  have e : lim (smallV (.int k n)) 0 = n := w64_id (x := n) h0 (by omega)
  refine ⟨⟨⟨by rw [e]; exact h0, by rw [e]; unfold LL; omega⟩, ⟨?_, ?_⟩, ⟨?_, ?_⟩, ⟨?_, ?_⟩, ⟨?_, ?_⟩⟩, ?_⟩
  · exact Int.le_refl 0
  · show (0 : Int) ≤ LL; decide
  · exact Int.le_refl 0
  · show (0 : Int) ≤ LL; decide
  · exact Int.le_refl 0
  · show (0 : Int) ≤ LL; decide
  · exact Int.le_refl 0
  · show (0 : Int) ≤ LL; decide
  · unfold FV
    have : valE (smallV (.int k n)) = lim (smallV (.int k n)) 0 + 2251799813685248 * 0 + 5070602400912917605986812821504 * 0 + 11417981541647679048466287755595961091061972992 * 0 + 25711008708143844408671393477458601640355247900524685364822016 * 0 := rfl
    rw [this, e]
    congr 1
    omega
end Go.Proofs.Ythgefjgbkhkmgaa.Ev
