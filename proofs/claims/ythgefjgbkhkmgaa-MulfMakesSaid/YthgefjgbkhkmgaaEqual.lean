/-
  Layer 1 walked: Equal, by its rounds; Same, Zero.
-/
import Derived.Test.YthgefjgbkhkmgaaTri
import Derived.Test.YthgefjgbkhkmgaaCtL
namespace Go.Proofs.Ythgefjgbkhkmgaa.Ev
open Go Go.RowKit

def bor (x y : Int) : Int := IntKind.u8.wrap ((BitVec.ofInt 8 x ||| BitVec.ofInt 8 y).toNat : Int)
def byteI (l : List UInt8) (i : Nat) : Int := ((byteAt l i).toNat : Int)
/-- what Equal has gathered after i rounds -/
def eqD (a b : List UInt8) : Nat → Int
  | 0 => 0
  | i + 1 => bor (eqD a b i) (bxor (byteI a i) (byteI b i))

def eqS (a b : ByteArray) (d i : Int) : AS := ⟨tmps [(0, .string a), (1, .string b), (5, .int .u8 d), (13, .int .i64 a.size), (14, .int .i64 i)] 29 0, [], 100⟩
noncomputable def f30l : Code := inB (blockIn 0 (bodyOf Try.f30))
noncomputable def eqC (a b : ByteArray) (d : Int) : LoopC := ⟨.loop f30l, eqS a b 0 0, .normal, eqS a b d a.size⟩

theorem f30_no (a b : ByteArray) : evBody tab orc0 [(11, .b true)] [] [] 1000 Try.f30 (bodyOf Try.f30) [.string a, .string b] [] 0 [] (fun r => r = .bool false) =
    (emit ((a.size : Int) != (b.size : Int)) true ∧ Value.bool false = .bool false) := by kernel_rfl
theorem f30_yes (a b : ByteArray) (d : Int) : evBody tab orc0 [(11, .b false)] [] [(0, eqC a b d)] 1000 Try.f30 (bodyOf Try.f30) [.string a, .string b] [] 0 [] (fun r => r = .bool (d == 0)) =
    (emit ((a.size : Int) != (b.size : Int)) false ∧ Code.loop f30l = Code.loop f30l ∧ leS (eqS a b 0 0) (eqS a b 0 0) ∧ Value.bool (d == 0) = .bool (d == 0)) := by kernel_rfl

/-- one round -/
theorem f30_step (a b : ByteArray) (d i : Int) : evC tab orc0 [(15, .b true), (20, .ok), (23, .ok)] [] [] 1000 f30l (fun e _ s' => match e with
      | .normal => leS (eqS a b (bor d (bxor ((byteAt a.data.toList i.toNat).toNat : Int) ((byteAt b.data.toList i.toNat).toNat : Int))) (IntKind.i64.wrap (i + 1))) s'
      | _ => False) [] (eqS a b d i) =
    (emit (decide (i < (a.size : Int))) true ∧ decide (0 ≤ i ∧ i < (a.size : Int)) = true ∧ decide (0 ≤ i ∧ i < (b.size : Int)) = true ∧
      leS (eqS a b (bor d (bxor ((byteAt a.data.toList i.toNat).toNat : Int) ((byteAt b.data.toList i.toNat).toNat : Int))) (IntKind.i64.wrap (i + 1))) (eqS a b (bor d (bxor ((byteAt a.data.toList i.toNat).toNat : Int) ((byteAt b.data.toList i.toNat).toNat : Int))) (IntKind.i64.wrap (i + 1)))) := by kernel_rfl
/-- the last -/
theorem f30_last (a b : ByteArray) (d i : Int) : evC tab orc0 [(15, .b false)] [] [] 1000 f30l (fun e _ s' => match e with
      | .exit 0 => leS (eqS a b d i) s'
      | _ => False) [] (eqS a b d i) =
    (emit (decide (i < (a.size : Int))) false ∧ leS (eqS a b d i) (eqS a b d i)) := by kernel_rfl
theorem eqS_low (a b : ByteArray) (d i : Int) : low (eqS a b d i) = true := by kernel_rfl

theorem leS_refl_of {s : AS} (h : s.h = []) : leS s s := ⟨leT_refl _, by rw [h]; trivial⟩

theorem wrap_i64 {x : Int} (h0 : 0 ≤ x) (h1 : x < 9223372036854775808) : IntKind.i64.wrap x = x := by
  have h : IntKind.i64.wrap x = if 9223372036854775808 ≤ x % 18446744073709551616 then x % 18446744073709551616 - 18446744073709551616 else x % 18446744073709551616 := by
    simp [IntKind.wrap, IntKind.bits, IntKind.signed]
  rw [h]
  split <;> omega

theorem eq_lo (a b : ByteArray) (hs : a.size = b.size) (hn : a.size ≤ 1099511627776) : LoOk Try.prog [(0, eqC a b (eqD a.data.toList b.data.toList a.size))] := by
  intro id L h
  simp only [loGet] at h
  split at h
  · rename_i hid
    have := Nat.eq_of_beq_eq_true hid
    subst this
    cases h
    refine ⟨eqS_low .., eqS_low .., ?_⟩
    let S : {i : Nat // i ≤ a.size} → AS := fun i => eqS a b (eqD a.data.toList b.data.toList i.1) (i.1 : Int)
    have := lo_of (id := 0) (b := f30l) (ex := .normal) (post := eqS a b (eqD a.data.toList b.data.toList a.size) a.size) S (fun i => a.size - i.1) (x := ⟨0, Nat.zero_le _⟩) (fun _ => eqS_low ..) ?_
    · exact this
    · rintro ⟨i, hi⟩
      rcases Nat.lt_or_ge i a.size with hlt | hge
      · refine (tri_ev orc0_ok loOk_nil (Eq.mpr (f30_step a b (eqD a.data.toList b.data.toList i) i) ?_)).mono ?_
        · exact ⟨emit_of (by rw [decide_eq_true_eq]; omega), by rw [decide_eq_true_eq]; omega, by rw [decide_eq_true_eq]; omega, leS_refl_of rfl⟩
        · intro e s' h
          cases e with
          | normal =>
            refine ⟨⟨i + 1, hlt⟩, by show a.size - (i + 1) < a.size - i; omega, ?_⟩
            simp only at h
            rw [wrap_i64 (by omega) (by omega)] at h
            exact h
          | _ => exact h.elim
      · have hi' : i = a.size := by omega
        subst hi'
        refine (tri_ev orc0_ok loOk_nil (Eq.mpr (f30_last a b (eqD a.data.toList b.data.toList a.size) a.size) ?_)).mono ?_
        · exact ⟨emit_of (by simp), leS_refl_of rfl⟩
        · intro e s' h
          cases e with
          | exit j =>
            cases j with
            | zero => exact ⟨rfl, h⟩
            | succ j => exact h.elim
          | _ => exact h.elim
  · cases h

/-! ## What has been gathered is naught where the texts are one -/
theorem bor_bv (x y : Int) : bor x y = ((BitVec.ofInt 8 x ||| BitVec.ofInt 8 y).toNat : Int) := by
  have := (BitVec.ofInt 8 x ||| BitVec.ofInt 8 y).isLt
  rw [bor, wrap_u8]
  omega
theorem byteI_lt (l : List UInt8) (i : Nat) : isB (byteI l i) := by
  have := (byteAt l i).toNat_lt
  exact ⟨by unfold byteI; omega, by unfold byteI; omega⟩
theorem eqD_isB (a b : List UInt8) (i : Nat) : isB (eqD a b i) := by
  cases i with
  | zero => exact ⟨Int.le_refl 0, by show (0 : Int) < 256; decide⟩
  | succ i =>
    rw [eqD, bor_bv]
    have := (BitVec.ofInt 8 (eqD a b i) ||| BitVec.ofInt 8 (bxor (byteI a i) (byteI b i))).isLt
    exact ⟨by omega, by omega⟩
theorem bxor_zero {x y : Int} (hx : isB x) (hy : isB y) : bxor x y = 0 ↔ x = y := by
  rw [bxor_bv]
  constructor
  · intro h
    have h1 : BitVec.ofInt 8 x ^^^ BitVec.ofInt 8 y = 0#8 := by
      apply BitVec.eq_of_toNat_eq
      simpa using h
    have h2 : BitVec.ofInt 8 x = BitVec.ofInt 8 y := BitVec.xor_eq_zero_iff.1 h1
    rw [← toNat_ofInt8 hx.1 hx.2, h2, toNat_ofInt8 hy.1 hy.2]
  · intro h
    subst h
    simp
theorem bor_zero {x y : Int} (hx : isB x) (hy : isB y) : bor x y = 0 ↔ x = 0 ∧ y = 0 := by
  rw [bor_bv]
  constructor
  · intro h
    have h1 : BitVec.ofInt 8 x ||| BitVec.ofInt 8 y = 0#8 := by
      apply BitVec.eq_of_toNat_eq
      simpa using h
    rw [BitVec.or_eq_zero_iff] at h1
    constructor
    · rw [← toNat_ofInt8 hx.1 hx.2, h1.1]; rfl
    · rw [← toNat_ofInt8 hy.1 hy.2, h1.2]; rfl
  · rintro ⟨rfl, rfl⟩
    decide
theorem bxor_isB (x y : Int) : isB (bxor x y) := by
  rw [bxor_bv]
  have := (BitVec.ofInt 8 x ^^^ BitVec.ofInt 8 y).isLt
  exact ⟨by omega, by omega⟩
theorem eqD_zero (a b : List UInt8) : ∀ n, eqD a b n = 0 ↔ ∀ i, i < n → byteAt a i = byteAt b i := by
  intro n
  induction n with
  | zero => simp [eqD]
  | succ n ih =>
    rw [eqD, bor_zero (eqD_isB ..) (bxor_isB ..), ih, bxor_zero (byteI_lt ..) (byteI_lt ..)]
    have e : byteI a n = byteI b n ↔ byteAt a n = byteAt b n := by
      unfold byteI
      rw [Int.ofNat_inj, UInt8.toNat_inj]
    rw [e]
    constructor
    · rintro ⟨h1, h2⟩ i hi
      rcases Nat.lt_succ_iff_lt_or_eq.1 hi with h | h
      · exact h1 i h
      · subst h; exact h2
    · intro h
      exact ⟨fun i hi => h i (by omega), h n (by omega)⟩
theorem byteAt_ext : ∀ {a b : List UInt8}, a.length = b.length → (∀ i, i < a.length → byteAt a i = byteAt b i) → a = b := by
  intro a
  induction a with
  | nil => intro b h _; cases b with
    | nil => rfl
    | cons x r => cases h
  | cons x a ih =>
    intro b h hb
    cases b with
    | nil => cases h
    | cons y b =>
      have h0 := hb 0 (by simp)
      simp only [byteAt] at h0
      subst h0
      rw [ih (b := b) (by simpa using h) fun i hi => by simpa [byteAt] using hb (i + 1) (by simpa using hi)]

/-- are two texts one? -/
def txtEq (a b : ByteArray) : Bool := a.data.toList == b.data.toList
def equalF (v : List Value) : Bool × Value := match v with
  | [.string a, .string b] => (Nat.ble a.size 1099511627776, .bool (txtEq a b))
  | _ => (false, .bool false)

theorem equal_ok : FoOk 30 (foOf [.str, .str] equalF) := fo_of' Try.func30 (c := bodyOf Try.f30) (by kernel_rfl) (by kernel_rfl) (fun e => by kernel_rfl) fun e h => by
  have hn : (e.s 0).size ≤ 1099511627776 := Nat.le_of_ble_eq_true h
  show ∀ g, Ctr Try.prog 30 [.string (e.s 0), .string (e.s 1)] g (.bool (txtEq (e.s 0) (e.s 1)))
  generalize e.s 0 = a at hn
  generalize e.s 1 = b
  have la : a.data.toList.length = a.size := by simp
  have lb : b.data.toList.length = b.size := by simp
  by_cases hs : a.size = b.size
  · have hv : txtEq a b = (eqD a.data.toList b.data.toList a.size == 0) := by
      unfold txtEq
      rw [Bool.eq_iff_iff, beq_iff_eq, beq_iff_eq, eqD_zero]
      constructor
      · intro h i _; rw [h]
      · intro h
        exact byteAt_ext (by rw [la, lb, hs]) fun i hi => h i (by omega)
    rw [hv]
    refine fo_ctr orc0_ok Try.func30 (c := bodyOf Try.f30) (by kernel_rfl) rfl (Eq.mpr (f30_yes a b _) ?_) (eq_lo a b hs hn)
    exact ⟨emit_of (by rw [hs]; simp), rfl, leS_refl_of rfl, rfl⟩
  · have hv : txtEq a b = false := by
      unfold txtEq
      rw [beq_eq_false_iff_ne]
      intro h
      rw [h, lb] at la
      omega
    rw [hv]
    refine fo_ctr orc0_ok Try.func30 (c := bodyOf Try.f30) (by kernel_rfl) rfl (Eq.mpr (f30_no a b) ?_)
    exact ⟨emit_of (by simp; omega), rfl⟩

end Go.Proofs.Ythgefjgbkhkmgaa.Ev
