/-
  Layer 1 in plain words: what is picked by a number.
-/
import Derived.Test.YthgefjgbkhkmgaaDoorAwake
namespace Go.Proofs.YthgefjgbkhkmgaaDoor.Ev
open Go Go.RowKit

/-- what an assumption asks -/
def emit (b e : Bool) : Prop := (true && (b == e)) = true
theorem emit_of {b e : Bool} (h : b = e) : emit b e := by subst h; cases b <;> rfl

def eqL : List Value → List Value → Bool
  | .int _ a :: r, .int _ b :: r' => (a == b) && eqL r r'
  | _, _ => true
def eqV (x y : Value) : Bool := eqL (cellsV x) (cellsV y)
def a0 (e : Env) (sh : List Sh) (i : Nat) : Value := getD (mkA sh e 0) i

theorem eqL_refl : ∀ (l : List Value), eqL l l = true
  | [] => rfl
  | .int _ a :: r => by simp [eqL, eqL_refl r]
  | .bool _ :: _ | .float .. :: _ | .complex .. :: _ | .string _ :: _ | .pointer _ :: _ | .slice .. :: _ | .map _ :: _ | .chan _ :: _ | .func .. :: _ | .nilFunc :: _ | .iface .. :: _ | .nilIface :: _ | .agg _ :: _ | .tuple _ :: _ => rfl

theorem eqV_refl (x : Value) : eqV x x = true := eqL_refl _

/-! ## Bytes -/
theorem wrap_u8 (x : Int) : IntKind.u8.wrap x = x % 256 := by
  simp [IntKind.wrap, IntKind.bits, IntKind.signed]
theorem wrap_u64 (x : Int) : IntKind.u64.wrap x = x % 18446744073709551616 := by
  simp [IntKind.wrap, IntKind.bits, IntKind.signed]

theorem bxor_bv (x y : Int) : bxor x y = ((BitVec.ofInt 8 x ^^^ BitVec.ofInt 8 y).toNat : Int) := by
  have := (BitVec.ofInt 8 x ^^^ BitVec.ofInt 8 y).isLt
  rw [bxor, wrap_u8]
  omega
theorem band_bv (x y : Int) : band x y = ((BitVec.ofInt 8 x &&& BitVec.ofInt 8 y).toNat : Int) := by
  have := (BitVec.ofInt 8 x &&& BitVec.ofInt 8 y).isLt
  rw [band, wrap_u8]
  omega
theorem ofInt_toNat8 (z : BitVec 8) : BitVec.ofInt 8 (z.toNat : Int) = z := by
  apply BitVec.eq_of_toNat_eq
  simp
theorem toNat_ofInt8 {x : Int} (h0 : 0 ≤ x) (h1 : x < 256) : ((BitVec.ofInt 8 x).toNat : Int) = x := by
  simp [BitVec.toNat_ofInt]
  omega

/-- a byte -/
def isB (x : Int) : Prop := 0 ≤ x ∧ x < 256

theorem pickB_one {b x y : Int} (hb : maskB b = 255) (hy : isB y) : pickB b x y = y := by
  rw [pickB, hb, bxor_bv, band_bv, bxor_bv, ofInt_toNat8, ofInt_toNat8]
  have : BitVec.ofInt 8 255 = BitVec.allOnes 8 := by decide
  rw [this, BitVec.allOnes_and, ← BitVec.xor_assoc, BitVec.xor_self, BitVec.zero_xor]
  exact toNat_ofInt8 hy.1 hy.2
theorem pickB_zero {b x y : Int} (hb : maskB b = 0) (hx : isB x) : pickB b x y = x := by
  rw [pickB, hb, bxor_bv, band_bv, bxor_bv, ofInt_toNat8, ofInt_toNat8]
  have : BitVec.ofInt 8 0 = 0#8 := by decide
  rw [this, BitVec.zero_and, BitVec.xor_zero]
  exact toNat_ofInt8 hx.1 hx.2

theorem and_one (b : Int) : ((BitVec.ofInt 64 b &&& BitVec.ofInt 64 1).toNat : Int) = b % 2 := by
  rw [BitVec.toNat_and]
  have : (BitVec.ofInt 64 1).toNat = 1 := by decide
  rw [this, Nat.and_one_is_mod, BitVec.toNat_ofInt]
  omega

theorem maskB_odd {b : Int} (h : b % 2 = 1) : maskB b = 255 := by
  rw [maskB, and_one, h]; decide
theorem maskB_even {b : Int} (h : b % 2 = 0) : maskB b = 0 := by
  rw [maskB, and_one, h]; decide

theorem pick_cells_one {b : Int} (hb : maskB b = 255) {f g : Nat → Int} : ∀ {n i : Nat}, (∀ j, i ≤ j → j < i + n → isB (g j)) → pickL b (cellsOf .u8 f n i) (cellsOf .u8 g n i) = cellsOf .u8 g n i := by
  intro n
  induction n with
  | zero => intros; rfl
  | succ n ih =>
    intro i h
    simp only [cellsOf, pickL]
    rw [pickB_one hb (h i (by omega) (by omega)), ih fun j h1 h2 => h j (by omega) (by omega)]
theorem pick_cells_zero {b : Int} (hb : maskB b = 0) {f g : Nat → Int} : ∀ {n i : Nat}, (∀ j, i ≤ j → j < i + n → isB (f j)) → pickL b (cellsOf .u8 f n i) (cellsOf .u8 g n i) = cellsOf .u8 f n i := by
  intro n
  induction n with
  | zero => intros; rfl
  | succ n ih =>
    intro i h
    simp only [cellsOf, pickL]
    rw [pickB_zero hb (h i (by omega) (by omega)), ih fun j h1 h2 => h j (by omega) (by omega)]

theorem pickV_odd {b : Int} (hb : b % 2 = 1) {f g : Nat → Int} (hg : ∀ j, j < 32 → isB (g j)) : pickV (.int .i64 b) (vK f) (vK g) = vK g := by
  show Value.agg _ = _
  simp only [intV, cellsV, arrOf]
  rw [pick_cells_one (maskB_odd hb) fun j _ h => hg j (by omega)]
theorem pickV_even {b : Int} (hb : b % 2 = 0) {f g : Nat → Int} (hf : ∀ j, j < 32 → isB (f j)) : pickV (.int .i64 b) (vK f) (vK g) = vK f := by
  show Value.agg _ = _
  simp only [intV, cellsV, arrOf]
  rw [pick_cells_zero (maskB_even hb) fun j _ h => hf j (by omega)]
theorem tmod_odd {b : Int} (h : b % 2 = 1) : (b.tmod 2 != 0) = true := by
  rw [bne_iff_ne]
  intro e
  have := Int.dvd_of_tmod_eq_zero e
  omega
theorem tmod_even {b : Int} (h : b % 2 = 0) : (b.tmod 2 != 0) = false := by
  have : b.tmod 2 = 0 := Int.tmod_eq_zero_of_dvd (Int.dvd_of_emod_eq_zero h)
  rw [this]; rfl
end Go.Proofs.YthgefjgbkhkmgaaDoor.Ev
