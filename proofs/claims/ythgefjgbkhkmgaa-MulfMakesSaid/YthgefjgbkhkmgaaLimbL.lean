/-
  Layer 2 in plain words: what carry, Add, Sub come to as numbers.
-/
import Derived.Test.YthgefjgbkhkmgaaAll
namespace Go.Proofs.Ythgefjgbkhkmgaa.Ev
open Go Go.RowKit

theorem w64_id {x : Int} (h0 : 0 ≤ x) (h1 : x < 18446744073709551616) : w64 x = x := by
  rw [w64, wrap_u64]; omega
theorem w64_range (x : Int) : 0 ≤ w64 x ∧ w64 x < 18446744073709551616 := by
  rw [w64, wrap_u64]; omega
theorem sh_eq (x : Int) (n : Nat) : sh x n = x / 2 ^ n := by
  unfold sh
  exact Int.fdiv_eq_ediv_of_nonneg _ (Int.le_of_lt (Int.pow_pos (by decide)))
theorem and64_nat (x y : Int) : and64 x y = (((x % 18446744073709551616).toNat &&& (y % 18446744073709551616).toNat : Nat) : Int) := by
  rw [and64, wrap_u64, BitVec.toNat_and, BitVec.toNat_ofInt, BitVec.toNat_ofInt]
  have h : ((x % ↑(2 ^ 64 : Nat)).toNat &&& (y % ↑(2 ^ 64 : Nat)).toNat) ≤ (x % ↑(2 ^ 64 : Nat)).toNat := Nat.and_le_left
  have e : ((2 ^ 64 : Nat) : Int) = 18446744073709551616 := by decide
  rw [e] at h ⊢
  omega
theorem and_M51 (x : Int) : and64 x M51 = x % 2251799813685248 := by
  rw [and64_nat]
  have e : (M51 % 18446744073709551616).toNat = 2 ^ 51 - 1 := by decide
  rw [e, Nat.and_two_pow_sub_one_eq_mod]
  have e2 : (2 ^ 51 : Nat) = 2251799813685248 := by decide
  rw [e2]
  omega
theorem sh51 (x : Int) : sh x 51 = x / 2251799813685248 := by
  rw [sh_eq]; rfl

/-- limbs from 0 to B -/
def bnd (x : Value) (B : Int) : Prop := (0 ≤ lim x 0 ∧ lim x 0 ≤ B) ∧ (0 ≤ lim x 1 ∧ lim x 1 ≤ B) ∧ (0 ≤ lim x 2 ∧ lim x 2 ≤ B) ∧ (0 ≤ lim x 3 ∧ lim x 3 ≤ B) ∧ (0 ≤ lim x 4 ∧ lim x 4 ≤ B)
/-- the number that the limbs stand for -/
def valE (x : Value) : Int := lim x 0 + 2251799813685248 * lim x 1 + 5070602400912917605986812821504 * lim x 2 + 11417981541647679048466287755595961091061972992 * lim x 3 + 25711008708143844408671393477458601640355247900524685364822016 * lim x 4
/-- the modulus -/
def PP : Int := 57896044618658097711785492504343953926634992332820282019728792003956564819949

theorem carry_val {x : Value} (h : bnd x 18446744073709551615) : valE (carryV x) = valE x - PP * (lim x 4 / 2251799813685248) ∧
    (0 ≤ lim (carryV x) 0 ∧ lim (carryV x) 0 ≤ 2251799813685247 + 19 * (lim x 4 / 2251799813685248)) ∧ (0 ≤ lim (carryV x) 1 ∧ lim (carryV x) 1 ≤ 2251799813685247 + lim x 0 / 2251799813685248) ∧
    (0 ≤ lim (carryV x) 2 ∧ lim (carryV x) 2 ≤ 2251799813685247 + lim x 1 / 2251799813685248) ∧ (0 ≤ lim (carryV x) 3 ∧ lim (carryV x) 3 ≤ 2251799813685247 + lim x 2 / 2251799813685248) ∧
    (0 ≤ lim (carryV x) 4 ∧ lim (carryV x) 4 ≤ 2251799813685247 + lim x 3 / 2251799813685248) := by
  obtain ⟨⟨a0, a1⟩, ⟨b0, b1⟩, ⟨c0, c1⟩, ⟨d0, d1⟩, ⟨e0, e1⟩⟩ := h
  have l0 : lim (carryV x) 0 = w64 (and64 (lim x 0) M51 + w64 (19 * sh (lim x 4) 51)) := rfl
  have l1 : lim (carryV x) 1 = w64 (and64 (lim x 1) M51 + sh (lim x 0) 51) := rfl
  have l2 : lim (carryV x) 2 = w64 (and64 (lim x 2) M51 + sh (lim x 1) 51) := rfl
  have l3 : lim (carryV x) 3 = w64 (and64 (lim x 3) M51 + sh (lim x 2) 51) := rfl
  have l4 : lim (carryV x) 4 = w64 (and64 (lim x 4) M51 + sh (lim x 3) 51) := rfl
  simp only [and_M51, sh51] at l0 l1 l2 l3 l4
  rw [w64_id (x := 19 * _) (by omega) (by omega), w64_id (by omega) (by omega)] at l0
  rw [w64_id (by omega) (by omega)] at l1 l2 l3 l4
  unfold valE PP
  rw [l0, l1, l2, l3, l4]
  refine ⟨by omega, ⟨by omega, by omega⟩, ⟨by omega, by omega⟩, ⟨by omega, by omega⟩, ⟨by omega, by omega⟩, ⟨by omega, by omega⟩⟩

def TT : Int := 4503599627370496
def LL : Int := 18014398509481984
theorem bnd_mono {x : Value} {B C : Int} (h : bnd x B) (hB : B ≤ C) : bnd x C := by
  obtain ⟨⟨a0, a1⟩, ⟨b0, b1⟩, ⟨c0, c1⟩, ⟨d0, d1⟩, ⟨e0, e1⟩⟩ := h
  exact ⟨⟨a0, by omega⟩, ⟨b0, by omega⟩, ⟨c0, by omega⟩, ⟨d0, by omega⟩, ⟨e0, by omega⟩⟩

theorem add_val {x y : Value} (hx : bnd x LL) (hy : bnd y LL) : (∃ k, valE (addV x y) = valE x + valE y - PP * k) ∧ bnd (addV x y) TT := by
  obtain ⟨⟨a0, a1⟩, ⟨b0, b1⟩, ⟨c0, c1⟩, ⟨d0, d1⟩, ⟨e0, e1⟩⟩ := hx
  obtain ⟨⟨a0', a1'⟩, ⟨b0', b1'⟩, ⟨c0', c1'⟩, ⟨d0', d1'⟩, ⟨e0', e1'⟩⟩ := hy
  unfold LL at *
  generalize hz : ints [w64 (lim x 0 + lim y 0), w64 (lim x 1 + lim y 1), w64 (lim x 2 + lim y 2), w64 (lim x 3 + lim y 3), w64 (lim x 4 + lim y 4)] = z
  have l0 : lim z 0 = lim x 0 + lim y 0 := by rw [← hz]; exact w64_id (by omega) (by omega)
  have l1 : lim z 1 = lim x 1 + lim y 1 := by rw [← hz]; exact w64_id (by omega) (by omega)
  have l2 : lim z 2 = lim x 2 + lim y 2 := by rw [← hz]; exact w64_id (by omega) (by omega)
  have l3 : lim z 3 = lim x 3 + lim y 3 := by rw [← hz]; exact w64_id (by omega) (by omega)
  have l4 : lim z 4 = lim x 4 + lim y 4 := by rw [← hz]; exact w64_id (by omega) (by omega)
  have e : addV x y = carryV z := by rw [← hz]; rfl
  rw [e]
  obtain ⟨q, q0, q1, q2, q3, q4⟩ := carry_val (x := z) ⟨⟨by omega, by omega⟩, ⟨by omega, by omega⟩, ⟨by omega, by omega⟩, ⟨by omega, by omega⟩, ⟨by omega, by omega⟩⟩
  refine ⟨⟨lim z 4 / 2251799813685248, ?_⟩, ?_⟩
  · rw [q]
    unfold valE
    rw [l0, l1, l2, l3, l4]
    omega
  · unfold bnd TT
    refine ⟨⟨q0.1, by omega⟩, ⟨q1.1, by omega⟩, ⟨q2.1, by omega⟩, ⟨q3.1, by omega⟩, ⟨q4.1, by omega⟩⟩

theorem sub_val {x y : Value} (hx : bnd x LL) (hy : bnd y LL) : (∃ k, valE (subV x y) = valE x - valE y - PP * k) ∧ bnd (subV x y) TT := by
  obtain ⟨⟨a0, a1⟩, ⟨b0, b1⟩, ⟨c0, c1⟩, ⟨d0, d1⟩, ⟨e0, e1⟩⟩ := hx
  obtain ⟨⟨a0', a1'⟩, ⟨b0', b1'⟩, ⟨c0', c1'⟩, ⟨d0', d1'⟩, ⟨e0', e1'⟩⟩ := hy
  unfold LL at *
  generalize hz : ints [w64 (lim x 0 + w64 (36028797018963664 - lim y 0)), w64 (lim x 1 + w64 (36028797018963952 - lim y 1)), w64 (lim x 2 + w64 (36028797018963952 - lim y 2)), w64 (lim x 3 + w64 (36028797018963952 - lim y 3)), w64 (lim x 4 + w64 (36028797018963952 - lim y 4))] = z
  have l0 : lim z 0 = lim x 0 + (36028797018963664 - lim y 0) := by
    rw [← hz]; show w64 (lim x 0 + w64 (36028797018963664 - lim y 0)) = _
    rw [w64_id (x := 36028797018963664 - lim y 0) (by omega) (by omega), w64_id (by omega) (by omega)]
  have l1 : lim z 1 = lim x 1 + (36028797018963952 - lim y 1) := by
    rw [← hz]; show w64 (lim x 1 + w64 (36028797018963952 - lim y 1)) = _
    rw [w64_id (x := 36028797018963952 - lim y 1) (by omega) (by omega), w64_id (by omega) (by omega)]
  have l2 : lim z 2 = lim x 2 + (36028797018963952 - lim y 2) := by
    rw [← hz]; show w64 (lim x 2 + w64 (36028797018963952 - lim y 2)) = _
    rw [w64_id (x := 36028797018963952 - lim y 2) (by omega) (by omega), w64_id (by omega) (by omega)]
  have l3 : lim z 3 = lim x 3 + (36028797018963952 - lim y 3) := by
    rw [← hz]; show w64 (lim x 3 + w64 (36028797018963952 - lim y 3)) = _
    rw [w64_id (x := 36028797018963952 - lim y 3) (by omega) (by omega), w64_id (by omega) (by omega)]
  have l4 : lim z 4 = lim x 4 + (36028797018963952 - lim y 4) := by
    rw [← hz]; show w64 (lim x 4 + w64 (36028797018963952 - lim y 4)) = _
    rw [w64_id (x := 36028797018963952 - lim y 4) (by omega) (by omega), w64_id (by omega) (by omega)]
  have e : subV x y = carryV z := by rw [← hz]; rfl
  rw [e]
  obtain ⟨q, q0, q1, q2, q3, q4⟩ := carry_val (x := z) ⟨⟨by omega, by omega⟩, ⟨by omega, by omega⟩, ⟨by omega, by omega⟩, ⟨by omega, by omega⟩, ⟨by omega, by omega⟩⟩
  refine ⟨⟨lim z 4 / 2251799813685248 - 16, ?_⟩, ?_⟩
  · rw [q]
    unfold valE PP
    rw [l0, l1, l2, l3, l4]
    omega
  · unfold bnd TT
    refine ⟨⟨q0.1, by omega⟩, ⟨q1.1, by omega⟩, ⟨q2.1, by omega⟩, ⟨q3.1, by omega⟩, ⟨q4.1, by omega⟩⟩

end Go.Proofs.Ythgefjgbkhkmgaa.Ev
