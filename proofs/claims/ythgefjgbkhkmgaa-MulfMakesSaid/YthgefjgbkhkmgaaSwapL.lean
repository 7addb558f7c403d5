/-
  Layer 4 in plain words: two elements, swapped or not; the bits of a key.
-/
import Derived.Test.YthgefjgbkhkmgaaOfL
import Derived.Test.YthgefjgbkhkmgaaDefs
namespace Go.Proofs.Ythgefjgbkhkmgaa.Ev
open Go Go.RowKit
open Sap (F P toF)

theorem maskI_odd {b : Int} (h : b % 2 = 1) : maskI b = 18446744073709551615 := by
  rw [maskI, and_one, h]; decide
theorem maskI_even {b : Int} (h : b % 2 = 0) : maskI b = 0 := by
  rw [maskI, and_one, h]; decide
theorem xor64_bv (x y : Int) : xor64 x y = ((BitVec.ofInt 64 x ^^^ BitVec.ofInt 64 y).toNat : Int) := by
  have := (BitVec.ofInt 64 x ^^^ BitVec.ofInt 64 y).isLt
  rw [xor64, wrap_u64]
  omega
theorem and64_bv (x y : Int) : and64 x y = ((BitVec.ofInt 64 x &&& BitVec.ofInt 64 y).toNat : Int) := by
  have := (BitVec.ofInt 64 x &&& BitVec.ofInt 64 y).isLt
  rw [and64, wrap_u64]
  omega
theorem ofInt_toNat64 (z : BitVec 64) : BitVec.ofInt 64 (z.toNat : Int) = z := by
  apply BitVec.eq_of_toNat_eq
  simp
theorem toNat_ofInt64 {x : Int} (h0 : 0 ≤ x) (h1 : x < 18446744073709551616) : ((BitVec.ofInt 64 x).toNat : Int) = x := by
  simp [BitVec.toNat_ofInt]
  omega
theorem swI_one (x y : Int) : swI 18446744073709551615 x y = ((BitVec.ofInt 64 x ^^^ BitVec.ofInt 64 y).toNat : Int) := by
  rw [swI, xor64_bv, and64_bv, ofInt_toNat64]
  have : BitVec.ofInt 64 18446744073709551615 = BitVec.allOnes 64 := by decide
  rw [this, BitVec.allOnes_and]
theorem swI_zero (x y : Int) : swI 0 x y = 0 := by
  rw [swI, and64_bv]
  have : BitVec.ofInt 64 0 = 0#64 := by decide
  rw [this, BitVec.zero_and]; rfl
theorem sw_first {x y : Int} (hy : 0 ≤ y ∧ y < 18446744073709551616) : xor64 x (swI 18446744073709551615 x y) = y := by
  rw [swI_one, xor64_bv, ofInt_toNat64, ← BitVec.xor_assoc, BitVec.xor_self, BitVec.zero_xor]
  exact toNat_ofInt64 hy.1 hy.2
theorem sw_second {x y : Int} (hx : 0 ≤ x ∧ x < 18446744073709551616) : xor64 y (swI 18446744073709551615 x y) = x := by
  rw [swI_one, xor64_bv, ofInt_toNat64, BitVec.xor_comm (BitVec.ofInt 64 x), ← BitVec.xor_assoc, BitVec.xor_self, BitVec.zero_xor]
  exact toNat_ofInt64 hx.1 hx.2
theorem sw_none {x y z : Int} (hx : 0 ≤ x ∧ x < 18446744073709551616) : xor64 x (swI 0 y z) = x := by
  rw [swI_zero, xor64_bv]
  have : BitVec.ofInt 64 0 = 0#64 := by decide
  rw [this, BitVec.xor_zero]
  exact toNat_ofInt64 hx.1 hx.2

theorem FV_nrm (x : Value) : FV (nrm x) = FV x := rfl
theorem bnd_nrm {x : Value} {B : Int} (h : bnd x B) : bnd (nrm x) B := h
theorem nrm_arr (f : Nat → Int) : nrm (arrOf .u64 5 f) = arrOf .u64 5 f := rfl
def U64 : Int := 18446744073709551615
theorem u64_of {x : Value} (h : bnd x U64) : (0 ≤ lim x 0 ∧ lim x 0 < 18446744073709551616) ∧ (0 ≤ lim x 1 ∧ lim x 1 < 18446744073709551616) ∧ (0 ≤ lim x 2 ∧ lim x 2 < 18446744073709551616) ∧ (0 ≤ lim x 3 ∧ lim x 3 < 18446744073709551616) ∧ (0 ≤ lim x 4 ∧ lim x 4 < 18446744073709551616) := by
  obtain ⟨⟨a0, a1⟩, ⟨b0, b1⟩, ⟨c0, c1⟩, ⟨d0, d1⟩, ⟨e0, e1⟩⟩ := h
  unfold U64 at *
  exact ⟨⟨a0, by omega⟩, ⟨b0, by omega⟩, ⟨c0, by omega⟩, ⟨d0, by omega⟩, ⟨e0, by omega⟩⟩
theorem swA_odd {b : Int} (hb : b % 2 = 1) {x y : Value} (hy : bnd y U64) : swA (maskI b) x y = nrm y := by
  obtain ⟨h0, h1, h2, h3, h4⟩ := u64_of hy
  unfold swA
  rw [maskI_odd hb, sw_first h0, sw_first h1, sw_first h2, sw_first h3, sw_first h4]; rfl
theorem swB_odd {b : Int} (hb : b % 2 = 1) {x y : Value} (hx : bnd x U64) : swB (maskI b) x y = nrm x := by
  obtain ⟨h0, h1, h2, h3, h4⟩ := u64_of hx
  unfold swB
  rw [maskI_odd hb, sw_second h0, sw_second h1, sw_second h2, sw_second h3, sw_second h4]; rfl
theorem swA_even {b : Int} (hb : b % 2 = 0) {x y : Value} (hx : bnd x U64) : swA (maskI b) x y = nrm x := by
  obtain ⟨h0, h1, h2, h3, h4⟩ := u64_of hx
  unfold swA
  rw [maskI_even hb, sw_none h0, sw_none h1, sw_none h2, sw_none h3, sw_none h4]; rfl
theorem swB_even {b : Int} (hb : b % 2 = 0) {x y : Value} (hy : bnd y U64) : swB (maskI b) x y = nrm y := by
  obtain ⟨h0, h1, h2, h3, h4⟩ := u64_of hy
  unfold swB
  rw [maskI_even hb, sw_none h0, sw_none h1, sw_none h2, sw_none h3, sw_none h4]; rfl

/-! ## The bits of a key -/
theorem wrap_i64_id {x : Int} (h0 : 0 ≤ x) (h1 : x < 9223372036854775808) : IntKind.i64.wrap x = x := by
  simp [IntKind.wrap, IntKind.bits, IntKind.signed]
  omega
theorem kb_val {f : Nat → Int} (hf : isK f) {i : Nat} (hi : i < 256) : kb (vK f) i % 2 = numK f / 2 ^ i % 2 ∧ 0 ≤ kb (vK f) i ∧ kb (vK f) i < 256 := by
  have hq : i / 8 < 32 := by omega
  have hr : i % 8 < 8 := Nat.mod_lt _ (by decide)
  have e : i = 8 * (i / 8) + i % 8 := by omega
  unfold kb
  rw [lim_vK hq]
  have hN : numK f = hn f 0 (i / 8) + 256 ^ (i / 8) * (f (i / 8) + 256 * hn f (i / 8 + 1) (31 - i / 8)) := by
    have h1 := hn_add f (i / 8) (32 - i / 8) 0
    rw [show i / 8 + (32 - i / 8) = 32 by omega, Nat.zero_add] at h1
    rw [numK, h1, show 32 - i / 8 = (31 - i / 8) + 1 by omega]
    rfl
  obtain ⟨a0, a1⟩ := hn_range hf (i / 8) 0 (by omega)
  obtain ⟨b0, b1⟩ := hf _ hq
  have hp : (2 : Int) ^ i = 256 ^ (i / 8) * 2 ^ (i % 8) := by
    rw [← pow_256, ← Int.pow_add, ← e]
  have hd : numK f / 2 ^ i = (f (i / 8) + 256 * hn f (i / 8 + 1) (31 - i / 8)) / 2 ^ (i % 8) := by
    rw [hp, ← Int.ediv_ediv_of_nonneg (Int.le_of_lt (pow256_pos _)), hN, Int.add_mul_ediv_left _ _ (Int.ne_of_gt (pow256_pos _)), Int.ediv_eq_zero_of_lt a0 a1, Int.zero_add]
  rw [hd]
  generalize f (i / 8) = b at *
  generalize hn f (i / 8 + 1) (31 - i / 8) = h at *
  have hs : b.fdiv (2 ^ (i % 8)) = b / 2 ^ (i % 8) := Int.fdiv_eq_ediv_of_nonneg _ (Int.le_of_lt (Int.pow_pos (by decide)))
  rw [hs]
  clear hs hd hp hN a0 a1 e
  rcases (by omega : i % 8 = 0 ∨ i % 8 = 1 ∨ i % 8 = 2 ∨ i % 8 = 3 ∨ i % 8 = 4 ∨ i % 8 = 5 ∨ i % 8 = 6 ∨ i % 8 = 7) with h' | h' | h' | h' | h' | h' | h' | h' <;> rw [h'] <;> simp only [Int.reducePow] <;> rw [wrap_i64_id (by omega) (by omega)] <;> omega
end Go.Proofs.Ythgefjgbkhkmgaa.Ev
