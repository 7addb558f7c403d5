/-
  Layer 2 in plain words: the bytes of a key are the digits of the number modulo the modulus.
-/
import Derived.Test.YthgefjgbkhkmgaaKeyL
namespace Go.Proofs.Ythgefjgbkhkmgaa.Ev
open Go Go.RowKit

/-- the key of a number -/
def keyN (n : Nat) : Value := vK (fun j => ((n / 2 ^ (8 * j) % 256 : Nat) : Int))

theorem bit_eq (l : Int) (k : Nat) (h0 : 0 ≤ l) : and64 (sh l k) 1 = ((l.toNat / 2 ^ k % 2 : Nat) : Int) ∨ 18446744073709551616 ≤ l := by
  rcases Int.lt_or_le l 18446744073709551616 with h | h
  · left
    rw [and64_nat, sh_eq]
    have e1 : (1 % 18446744073709551616 : Int).toNat = 1 := by decide
    rw [e1, Nat.and_one_is_mod]
    have e2 : l = (l.toNat : Int) := by omega
    have e3 : (l / 2 ^ k) = ((l.toNat / 2 ^ k : Nat) : Int) := by
      rw [e2]; simp
    have e4 : l.toNat / 2 ^ k ≤ l.toNat := Nat.div_le_self _ _
    rw [e3]
    omega
  · exact Or.inr h

theorem bitC_eq {r : Value} {i : Nat} (h0 : 0 ≤ lim r (i / 51)) (h1 : lim r (i / 51) < 18446744073709551616) : bitC r i = (((lim r (i / 51)).toNat / 2 ^ (i % 51) % 2 : Nat) : Int) := by
  rcases bit_eq (lim r (i / 51)) (i % 51) h0 with h | h
  · unfold bitC
    rw [h, wrap_u8]
    omega
  · omega

theorem limb_bit {N l m k : Nat} (hk : k < 51) (hl : l = N / 2 ^ (51 * m) % 2251799813685248) : l / 2 ^ k % 2 = N / 2 ^ (51 * m + k) % 2 := by
  subst hl
  have e : (2251799813685248 : Nat) = 2 ^ k * 2 ^ (51 - k) := by
    rw [← Nat.pow_add, show k + (51 - k) = 51 by omega]
  rw [e, Nat.mod_mul_right_div_self, Nat.pow_add, ← Nat.div_div_eq_div_mul]
  apply Nat.mod_mod_of_dvd
  exact ⟨2 ^ (50 - k), by rw [← Nat.pow_succ', show (50 - k).succ = 51 - k by omega]⟩

/-- the bits of a row of limbs are those of its number -/
theorem bitC_val {r : Value} (h : bnd r 2251799813685247) {i : Nat} (hi : i < 255) : bitC r i = (((valE r).toNat / 2 ^ i % 2 : Nat) : Int) := by
  obtain ⟨⟨a0, a1⟩, ⟨b0, b1⟩, ⟨c0, c1⟩, ⟨d0, d1⟩, ⟨e0, e1⟩⟩ := h
  have hk : i % 51 < 51 := Nat.mod_lt _ (by decide)
  have hm : i / 51 < 5 := by omega
  have hi2 : 51 * (i / 51) + i % 51 = i := Nat.div_add_mod i 51
  have key : ∀ m, i / 51 = m → 0 ≤ lim r m → lim r m < 18446744073709551616 → (lim r m).toNat = (valE r).toNat / 2 ^ (51 * m) % 2251799813685248 → bitC r i = (((valE r).toNat / 2 ^ i % 2 : Nat) : Int) := by
    intro m hm h0 h1 h2
    subst hm
    rw [bitC_eq h0 h1, limb_bit hk h2, hi2]
  have hv : valE r = lim r 0 + 2251799813685248 * lim r 1 + 5070602400912917605986812821504 * lim r 2 + 11417981541647679048466287755595961091061972992 * lim r 3 + 25711008708143844408671393477458601640355247900524685364822016 * lim r 4 := rfl
  rcases (by omega : i / 51 = 0 ∨ i / 51 = 1 ∨ i / 51 = 2 ∨ i / 51 = 3 ∨ i / 51 = 4) with e | e | e | e | e
  · exact key 0 e a0 (by omega) (by rw [show (2 ^ (51 * 0) : Nat) = 1 from rfl]; omega)
  · exact key 1 e b0 (by omega) (by rw [show (2 ^ (51 * 1) : Nat) = 2251799813685248 by decide]; omega)
  · exact key 2 e c0 (by omega) (by rw [show (2 ^ (51 * 2) : Nat) = 5070602400912917605986812821504 by decide]; omega)
  · exact key 3 e d0 (by omega) (by rw [show (2 ^ (51 * 3) : Nat) = 11417981541647679048466287755595961091061972992 by decide]; omega)
  · exact key 4 e e0 (by omega) (by rw [show (2 ^ (51 * 4) : Nat) = 25711008708143844408671393477458601640355247900524685364822016 by decide]; omega)

theorem bor_nat {x y : Int} (hx : 0 ≤ x ∧ x < 256) (hy : 0 ≤ y ∧ y < 256) : bor x y = ((x.toNat ||| y.toNat : Nat) : Int) := by
  have h := (BitVec.ofInt 8 x ||| BitVec.ofInt 8 y).isLt
  rw [bor, wrap_u8]
  have e : (BitVec.ofInt 8 x ||| BitVec.ofInt 8 y).toNat = x.toNat ||| y.toNat := by
    rw [BitVec.toNat_or, BitVec.toNat_ofInt, BitVec.toNat_ofInt]
    congr 1 <;> omega
  rw [e] at h ⊢
  omega

/-- a byte's lowest bits -/
theorem byteN_val {r : Value} (h : bnd r 2251799813685247) {j : Nat} : ∀ b, b ≤ 8 → 8 * j + b ≤ 255 → byteN r j b = (((valE r).toNat / 2 ^ (8 * j) % 2 ^ b : Nat) : Int) := by
  intro b
  induction b with
  | zero => intro _ _; simp [byteN, Nat.mod_one]
  | succ b ih =>
    intro h1 h2
    simp only [byteN]
    rw [ih (by omega) (by omega), bitC_val h (by omega), Nat.pow_add, ← Nat.div_div_eq_div_mul, Nat.pow_succ, Nat.mod_mul]
    generalize (valE r).toNat / 2 ^ (8 * j) = M
    have hm : M % 2 ^ b < 2 ^ b := Nat.mod_lt _ (Nat.pow_pos (by decide))
    have hb2 : 2 ^ b ≤ 128 := (Nat.pow_le_pow_right (n := 2) (by decide) (by omega : b ≤ 7))
    have hq : M / 2 ^ b % 2 < 2 := Nat.mod_lt _ (by decide)
    have e2 : (((M / 2 ^ b % 2 : Nat) : Int) * 2 ^ b) = ((2 ^ b * (M / 2 ^ b % 2) : Nat) : Int) := by
      rw [Int.natCast_mul, Int.natCast_pow, Int.mul_comm]; rfl
    rw [e2, wrap_u8]
    have hs : 2 ^ b * (M / 2 ^ b % 2) ≤ 128 := Nat.le_trans (Nat.mul_le_mul_left _ (by omega : M / 2 ^ b % 2 ≤ 1)) (by omega)
    generalize hx : 2 ^ b * (M / 2 ^ b % 2) = x at *
    rw [show ((x : Int) % 256) = (x : Int) by omega, bor_nat ⟨by omega, by omega⟩ ⟨by omega, by omega⟩]
    simp only [Int.toNat_natCast]
    rw [Nat.or_comm, ← hx, ← Nat.two_pow_add_eq_or_of_lt hm, hx, Nat.add_comm]

theorem bytesN_val {r : Value} (h : bnd r 2251799813685247) : ∀ n j, n + j = 31 → bytesN r n j = cellsOf .u8 (fun j => (((valE r).toNat / 2 ^ (8 * j) % 256 : Nat) : Int)) (n + 1) j := by
  have hlt : (valE r).toNat < 57896044618658097711785492504343953926634992332820282019728792003956564819968 := by
    obtain ⟨⟨a0, a1⟩, ⟨b0, b1⟩, ⟨c0, c1⟩, ⟨d0, d1⟩, ⟨e0, e1⟩⟩ := h
    unfold valE
    omega
  intro n
  induction n with
  | zero =>
    intro j hj
    have : j = 31 := by omega
    subst this
    simp only [bytesN, cellsOf]
    rw [byteN_val h 7 (by omega) (by omega)]
    have e : (2 ^ (8 * 31) : Nat) = 452312848583266388373324160190187140051835877600158453279131187530910662656 := by decide
    have e7 : (2 ^ 7 : Nat) = 128 := by decide
    rw [e, e7]
    congr 3
    omega
  | succ n ih =>
    intro j hj
    simp only [bytesN]
    rw [ih (j + 1) (by omega), byteN_val h 8 (by omega) (by omega)]
    rfl

theorem keyV_val {x : Value} (h : bnd x 18446744073709551615) : keyV x = keyN (valE x % PP).toNat := by
  obtain ⟨k, hv, h0, h1, h2, h3, h4⟩ := carry3 h
  obtain ⟨r1, r2⟩ := red_val h0 h1 h2 h3 h4
  unfold keyV keyN
  rw [bytesN_val r2 31 0 rfl, r1, hv]
  rw [show (valE x - PP * k) % PP = valE x % PP by unfold PP; omega]
  rfl
end Go.Proofs.Ythgefjgbkhkmgaa.Ev
