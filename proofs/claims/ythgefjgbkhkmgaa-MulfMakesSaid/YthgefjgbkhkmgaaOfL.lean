/-
  Layer 2 in plain words: the number of a key, and what Of reads of it.
-/
import Derived.Test.YthgefjgbkhkmgaaMulfL
namespace Go.Proofs.Ythgefjgbkhkmgaa.Ev
open Go Go.RowKit
open Sap (F P toF)

/-- bytes as a number, the lowest first -/
def hn (f : Nat → Int) : Nat → Nat → Int
  | _, 0 => 0
  | j, n + 1 => f j + 256 * hn f (j + 1) n
def numK (f : Nat → Int) : Int := hn f 0 32
def isK (f : Nat → Int) : Prop := ∀ j, j < 32 → isB (f j)

theorem pow256_succ (n : Nat) : (256 : Int) ^ (n + 1) = 256 * 256 ^ n := by rw [Int.pow_succ, Int.mul_comm]
theorem pow256_pos (n : Nat) : (0 : Int) < 256 ^ n := Int.pow_pos (by decide)
theorem hn_range {f : Nat → Int} (hf : isK f) : ∀ (n j : Nat), j + n ≤ 32 → 0 ≤ hn f j n ∧ hn f j n < 256 ^ n := by
  intro n
  induction n with
  | zero => intro j _; exact ⟨Int.le_refl 0, by show (0 : Int) < 1; decide⟩
  | succ n ih =>
    intro j h
    obtain ⟨h1, h2⟩ := ih (j + 1) (by omega)
    obtain ⟨b1, b2⟩ := hf j (by omega)
    simp only [hn]
    rw [pow256_succ]
    generalize (256 : Int) ^ n = p at *
    omega
theorem hn_add (f : Nat → Int) : ∀ (m n j : Nat), hn f j (m + n) = hn f j m + 256 ^ m * hn f (j + m) n := by
  intro m
  induction m with
  | zero => intro n j; simp [hn]
  | succ m ih =>
    intro n j
    rw [show m + 1 + n = m + n + 1 by omega]
    simp only [hn]
    rw [ih n (j + 1), pow256_succ, show j + 1 + m = j + (m + 1) by omega]
    generalize (256 : Int) ^ m = p
    generalize hn f (j + 1) m = a
    generalize hn f (j + (m + 1)) n = b
    grind
theorem hn_digits (m : Nat) : ∀ (n j : Nat), hn (fun j => ((m / 2 ^ (8 * j) % 256 : Nat) : Int)) j n = ((m / 2 ^ (8 * j) % 2 ^ (8 * n) : Nat) : Int) := by
  intro n
  induction n with
  | zero => intro j; simp [hn, Nat.mod_one]
  | succ n ih =>
    intro j
    simp only [hn]
    rw [ih (j + 1)]
    have e1 : 2 ^ (8 * (n + 1)) = 256 * 2 ^ (8 * n) := by rw [show 8 * (n + 1) = 8 + 8 * n by omega, Nat.pow_add]
    have e2 : m / 2 ^ (8 * (j + 1)) = m / 2 ^ (8 * j) / 256 := by rw [show 8 * (j + 1) = 8 * j + 8 by omega, Nat.pow_add, Nat.div_div_eq_div_mul]
    rw [e1, Nat.mod_mul, e2]
    omega

theorem getD_cells {k : IntKind} {f : Nat → Int} : ∀ (n i j : Nat), j < n → getD (cellsOf k f n i) j = .int k (f (i + j)) := by
  intro n
  induction n with
  | zero => intro i j h; omega
  | succ n ih =>
    intro i j h
    cases j with
    | zero => rfl
    | succ j =>
      show getD (cellsOf k f n (i + 1)) j = _
      rw [ih (i + 1) j (by omega)]
      congr 2; omega
theorem lim_arr {k : IntKind} {n : Nat} {f : Nat → Int} {j : Nat} (h : j < n) : lim (arrOf k n f) j = f j := by
  show intV (getD (cellsOf k f n 0) j) = f j
  rw [getD_cells n 0 j h, Nat.zero_add]; rfl
theorem lim_vK {f : Nat → Int} {j : Nat} (h : j < 32) : lim (vK f) j = f j := lim_arr h

theorem or64_step {acc b : Int} {q : Nat} (hq : q ≤ 56) (ha : 0 ≤ acc ∧ acc < 2 ^ q) (hb : isB b) : or64 acc (w64 (w64 b * 2 ^ q)) = acc + 2 ^ q * b := by
  have hp : (0 : Int) < 2 ^ q := Int.pow_pos (by decide)
  have hp2 : (2 : Int) ^ q ≤ 72057594037927936 := by
    have h := Nat.pow_le_pow_right (n := 2) (by decide) hq
    have h' : ((2 ^ q : Nat) : Int) ≤ ((2 ^ 56 : Nat) : Int) := by exact_mod_cast h
    rw [Int.natCast_pow] at h'
    exact h'
  have h1 : b * 2 ^ q ≤ 255 * 2 ^ q := Int.mul_le_mul_of_nonneg_right (by have := hb.2; omega) (Int.le_of_lt hp)
  have h0 : 0 ≤ b * 2 ^ q := Int.mul_nonneg hb.1 (Int.le_of_lt hp)
  rw [w64_id (x := b) hb.1 (by have := hb.2; omega), w64_id h0 (by omega), or64_nat ⟨ha.1, by omega⟩ ⟨h0, by omega⟩]
  have e : (b * 2 ^ q).toNat = 2 ^ q * b.toNat := by
    obtain ⟨c, rfl⟩ := Int.eq_ofNat_of_zero_le hb.1
    have e0 : ((c : Int) * 2 ^ q) = ((2 ^ q * c : Nat) : Int) := by rw [Int.natCast_mul, Int.natCast_pow, Int.mul_comm]; rfl
    rw [e0, Int.toNat_natCast, Int.toNat_natCast]
  have ea : acc.toNat < 2 ^ q := by
    have : ((acc.toNat : Nat) : Int) < ((2 ^ q : Nat) : Int) := by
      rw [Int.natCast_pow]
      show (acc.toNat : Int) < (2 : Int) ^ q
      omega
    exact_mod_cast this
  rw [e, Nat.or_comm, ← Nat.two_pow_add_eq_or_of_lt ea, Int.natCast_add, Int.natCast_mul, Int.natCast_pow]
  have e1 : (acc.toNat : Int) = acc := by have := ha.1; omega
  have e2 : (b.toNat : Int) = b := by have := hb.1; omega
  rw [e1, e2, Int.add_comm]
  rfl
theorem pow_256 (i : Nat) : (2 : Int) ^ (8 * i) = 256 ^ i := by rw [Int.pow_mul]; rfl

theorem wordI_val {f : Nat → Int} (hf : isK f) {at' : Nat} (ht : at' + 8 ≤ 32) : ∀ i, i ≤ 8 → wordI (vK f) at' i = hn f at' i := by
  intro i
  induction i with
  | zero => intro _; rfl
  | succ i ih =>
    intro h
    simp only [wordI]
    rw [ih (by omega), lim_vK (by omega)]
    have hr := hn_range hf i at' (by omega)
    have := or64_step (acc := hn f at' i) (b := f (at' + i)) (q := 8 * i) (by omega) (by rw [pow_256]; exact hr) (hf _ (by omega))
    unfold w64 at this
    rw [this, pow_256, hn_add f i 1 at']
    simp [hn]
theorem word_val {f : Nat → Int} (hf : isK f) {at' : Nat} (ht : at' + 8 ≤ 32) : wordI (vK f) at' 8 = numK f / 256 ^ at' % 18446744073709551616 := by
  rw [wordI_val hf ht 8 (Nat.le_refl 8)]
  have e : numK f = hn f 0 at' + 256 ^ at' * (hn f at' 8 + 256 ^ 8 * hn f (at' + 8) (32 - at' - 8)) := by
    have h1 := hn_add f at' (32 - at') 0
    rw [show at' + (32 - at') = 32 by omega, Nat.zero_add] at h1
    have h2 := hn_add f 8 (32 - at' - 8) at'
    rw [show 8 + (32 - at' - 8) = 32 - at' by omega] at h2
    rw [numK, h1, h2]
  obtain ⟨a0, a1⟩ := hn_range hf at' 0 (by omega)
  obtain ⟨b0, b1⟩ := hn_range hf 8 at' (by omega)
  have hd : numK f / 256 ^ at' = hn f at' 8 + 256 ^ 8 * hn f (at' + 8) (32 - at' - 8) := by
    rw [e, Int.add_mul_ediv_left _ _ (Int.ne_of_gt (pow256_pos at')), Int.ediv_eq_zero_of_lt a0 a1, Int.zero_add]
  rw [hd]
  have e8 : (256 : Int) ^ 8 = 18446744073709551616 := by decide
  rw [e8] at b1 ⊢
  omega

/-- what Of reads -/
theorem of_val {f : Nat → Int} (hf : isK f) : valE (ofV (vK f)) = numK f % 57896044618658097711785492504343953926634992332820282019728792003956564819968 ∧ bnd (ofV (vK f)) LL := by
  have l0 : lim (ofV (vK f)) 0 = and64 (wordI (vK f) 0 8) M51 := rfl
  have l1 : lim (ofV (vK f)) 1 = and64 (sh (wordI (vK f) 6 8) 3) M51 := rfl
  have l2 : lim (ofV (vK f)) 2 = and64 (sh (wordI (vK f) 12 8) 6) M51 := rfl
  have l3 : lim (ofV (vK f)) 3 = and64 (sh (wordI (vK f) 19 8) 1) M51 := rfl
  have l4 : lim (ofV (vK f)) 4 = and64 (sh (wordI (vK f) 24 8) 12) M51 := rfl
  rw [and_M51, word_val hf (by omega)] at l0
  rw [and_M51, sh_eq, word_val hf (by omega)] at l1 l2 l3 l4
  obtain ⟨n0, n1⟩ := hn_range hf 32 0 (by omega)
  have e0 : (256 : Int) ^ 0 = 1 := by decide
  have e6 : (256 : Int) ^ 6 = 281474976710656 := by decide
  have e12 : (256 : Int) ^ 12 = 79228162514264337593543950336 := by decide
  have e19 : (256 : Int) ^ 19 = 5708990770823839524233143877797980545530986496 := by decide
  have e24 : (256 : Int) ^ 24 = 6277101735386680763835789423207666416102355444464034512896 := by decide
  have s3 : (2 : Int) ^ 3 = 8 := by decide
  have s6 : (2 : Int) ^ 6 = 64 := by decide
  have s1 : (2 : Int) ^ 1 = 2 := by decide
  have s12 : (2 : Int) ^ 12 = 4096 := by decide
  rw [e0] at l0
  rw [e6, s3] at l1
  rw [e12, s6] at l2
  rw [e19, s1] at l3
  rw [e24, s12] at l4
  have e32 : (256 : Int) ^ 32 = 115792089237316195423570985008687907853269984665640564039457584007913129639936 := by decide
  rw [e32] at n1
  unfold valE bnd LL
  rw [l0, l1, l2, l3, l4]
  show _ = hn f 0 32 % _ ∧ _
  unfold numK
  generalize hn f 0 32 = N at *
  clear l0 l1 l2 l3 l4
  have m1 : N / 281474976710656 % 18446744073709551616 / 8 % 2251799813685248 = N / 2251799813685248 % 2251799813685248 := by omega
  have m2 : N / 79228162514264337593543950336 % 18446744073709551616 / 64 % 2251799813685248 = N / 5070602400912917605986812821504 % 2251799813685248 := by omega
  have m3 : N / 5708990770823839524233143877797980545530986496 % 18446744073709551616 / 2 % 2251799813685248 = N / 11417981541647679048466287755595961091061972992 % 2251799813685248 := by omega
  have m4 : N / 6277101735386680763835789423207666416102355444464034512896 % 18446744073709551616 / 4096 % 2251799813685248 = N / 25711008708143844408671393477458601640355247900524685364822016 % 2251799813685248 := by omega
  have m0 : N / 1 % 18446744073709551616 % 2251799813685248 = N % 2251799813685248 := by omega
  rw [m0, m1, m2, m3, m4]
  clear m0 m1 m2 m3 m4
  refine ⟨by omega, ⟨by omega, by omega⟩, ⟨by omega, by omega⟩, ⟨by omega, by omega⟩, ⟨by omega, by omega⟩, ⟨by omega, by omega⟩⟩
/-- the number that a key is read as -/
def numV (f : Nat → Int) : F := FI (numK f % 57896044618658097711785492504343953926634992332820282019728792003956564819968)
theorem of_FV {f : Nat → Int} (hf : isK f) : FV (ofV (vK f)) = numV f ∧ bnd (ofV (vK f)) LL := by
  obtain ⟨h1, h2⟩ := of_val hf
  exact ⟨by unfold FV numV; rw [h1], h2⟩

/-! ## The key of a number -/
def digN (n : Nat) : Nat → Int := fun j => ((n / 2 ^ (8 * j) % 256 : Nat) : Int)
theorem keyN_eq (n : Nat) : keyN n = vK (digN n) := rfl
theorem isK_dig (n : Nat) : isK (digN n) := fun j _ => by
  unfold digN isB
  omega
theorem numK_dig {n : Nat} (h : n < 115792089237316195423570985008687907853269984665640564039457584007913129639936) : numK (digN n) = n := by
  unfold numK digN
  rw [hn_digits n 32 0]
  simp only [Nat.mul_zero, Nat.pow_zero, Nat.div_one]
  rw [Nat.mod_eq_of_lt]
  exact h
theorem numV_dig (a : F) : numV (digN a.val) = a := by
  have h : a.val < P := a.isLt
  have h1 : P = 57896044618658097711785492504343953926634992332820282019728792003956564819949 := rfl
  unfold numV
  rw [numK_dig (by omega), show ((a.val : Int) % 57896044618658097711785492504343953926634992332820282019728792003956564819968) = (a.val : Int) by omega, FI_nat, Sap.toF_self]
/-- the bytes of an element, read again -/
theorem of_key {x : Value} (h : bnd x LL) : FV (ofV (keyV x)) = FV x ∧ bnd (ofV (keyV x)) LL := by
  rw [key_FV h, keyN_eq]
  obtain ⟨h1, h2⟩ := of_FV (isK_dig (FV x).val)
  exact ⟨by rw [h1, numV_dig], h2⟩
end Go.Proofs.Ythgefjgbkhkmgaa.Ev
