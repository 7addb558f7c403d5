/-
  Layer 3 in plain words: products in the field.
-/
import Derived.Test.YthgefjgbkhkmgaaMulf
import Derived.Test.YthgefjgbkhkmgaaFV
namespace Go.Proofs.Ythgefjgbkhkmgaa.Ev
open Go Go.RowKit
open Sap (F P toF)

theorem and64_low (x : Int) : and64 x 4294967295 = x % 4294967296 := by
  rw [and64_nat]
  have e : (4294967295 % 18446744073709551616 : Int).toNat = 2 ^ 32 - 1 := by decide
  rw [e, Nat.and_two_pow_sub_one_eq_mod]
  have e2 : (2 ^ 32 : Nat) = 4294967296 := by decide
  rw [e2]
  omega
theorem fdiv32 (x : Int) : x.fdiv (2 ^ 32) = x / 4294967296 := by
  rw [show (2 ^ 32 : Int) = 4294967296 by decide]
  exact Int.fdiv_eq_ediv_of_nonneg _ (by decide)
theorem prod_b {a b A B : Int} (ha : 0 ≤ a ∧ a ≤ A) (hb : 0 ≤ b ∧ b ≤ B) : 0 ≤ a * b ∧ a * b ≤ A * B :=
  ⟨Int.mul_nonneg ha.1 hb.1, Int.mul_le_mul ha.2 hb.2 hb.1 (Int.le_trans ha.1 ha.2)⟩

/-- the upper half of a product -/
theorem mulHi_val {x y : Int} (hx0 : 0 ≤ x) (hx : x < 18446744073709551616) (hy0 : 0 ≤ y) (hy : y < 18446744073709551616) :
    mulHi x y * 18446744073709551616 + w64 (x * y) = x * y ∧ 0 ≤ mulHi x y ∧ mulHi x y < 18446744073709551616 := by
  unfold mulHi
  simp only [and64_low, fdiv32]
  have ex : x = x % 4294967296 + 4294967296 * (x / 4294967296) := by omega
  have ey : y = y % 4294967296 + 4294967296 * (y / 4294967296) := by omega
  have ax : 0 ≤ x % 4294967296 ∧ x % 4294967296 ≤ 4294967295 := by omega
  have bx : 0 ≤ x / 4294967296 ∧ x / 4294967296 ≤ 4294967295 := by omega
  have ay : 0 ≤ y % 4294967296 ∧ y % 4294967296 ≤ 4294967295 := by omega
  have b_y : 0 ≤ y / 4294967296 ∧ y / 4294967296 ≤ 4294967295 := by omega
  generalize x % 4294967296 = x0 at *
  generalize x / 4294967296 = x1 at *
  generalize y % 4294967296 = y0 at *
  generalize y / 4294967296 = y1 at *
  have e : x * y = x0 * y0 + 4294967296 * (x1 * y0) + 4294967296 * (x0 * y1) + 18446744073709551616 * (x1 * y1) := by rw [ex, ey]; grind
  rw [e]
  have p00 := prod_b ax ay
  have p10 := prod_b bx ay
  have p01 := prod_b ax b_y
  have p11 := prod_b bx b_y
  clear e ex ey hx0 hx hy0 hy ax bx ay b_y
  generalize x0 * y0 = a at *
  generalize x1 * y0 = b at *
  generalize x0 * y1 = c at *
  generalize x1 * y1 = d at *
  rw [w64_id (x := a) (by omega) (by omega), w64_id (x := b) (by omega) (by omega), w64_id (x := c) (by omega) (by omega), w64_id (x := d) (by omega) (by omega)]
  rw [w64_id (x := b + a / 4294967296) (by omega) (by omega)]
  rw [w64_id (x := (b + a / 4294967296) % 4294967296 + c) (by omega) (by omega)]
  rw [w64_id (x := d + (b + a / 4294967296) / 4294967296) (by omega) (by omega)]
  rw [w64_id (x := d + (b + a / 4294967296) / 4294967296 + ((b + a / 4294967296) % 4294967296 + c) / 4294967296) (by omega) (by omega)]
  rw [w64, wrap_u64]
  refine ⟨by omega, by omega, by omega⟩

/-! ## Wide numbers -/
def wok (w : Value) : Prop := (0 ≤ lim w 0 ∧ lim w 0 < 18446744073709551616) ∧ (0 ≤ lim w 1 ∧ lim w 1 < 18446744073709551616)
def wv (w : Value) : Int := lim w 0 * 18446744073709551616 + lim w 1
theorem sLo_eq {x y c : Int} (hx : 0 ≤ x) (hy : 0 ≤ y) (hc : 0 ≤ c) : sLo x y c = (x + y + c) % 18446744073709551616 := by
  show (((x.toNat + y.toNat + c.toNat) % 18446744073709551616 : Nat) : Int) = _
  omega
theorem sHi_eq {x y c : Int} (hx : 0 ≤ x) (hy : 0 ≤ y) (hc : 0 ≤ c) : sHi x y c = (x + y + c) / 18446744073709551616 := by
  show (((x.toNat + y.toNat + c.toNat) / 18446744073709551616 : Nat) : Int) = _
  omega

theorem wadd_val {w : Value} {a b : Int} (hw : wok w) (ha : 0 ≤ a ∧ a < 18446744073709551616) (hb : 0 ≤ b ∧ b < 18446744073709551616) (h : wv w + a * b < 340282366920938463463374607431768211456) :
    wok (wadd w a b) ∧ wv (wadd w a b) = wv w + a * b := by
  obtain ⟨m1, m2, m3⟩ := mulHi_val ha.1 ha.2 hb.1 hb.2
  have hr := w64_range (a * b)
  obtain ⟨⟨h0, h1⟩, ⟨l0, l1⟩⟩ := hw
  have eC : waC w a b = (w64 (a * b) + lim w 1 + 0) / 18446744073709551616 := sHi_eq hr.1 l0 (Int.le_refl 0)
  have e1 : lim (wadd w a b) 1 = (w64 (a * b) + lim w 1 + 0) % 18446744073709551616 := sLo_eq hr.1 l0 (Int.le_refl 0)
  have e0 : lim (wadd w a b) 0 = (mulHi a b + lim w 0 + waC w a b) % 18446744073709551616 := sLo_eq m2 h0 (by rw [eC]; omega)
  unfold wok wv at *
  rw [e0, e1, eC]
  clear e0 e1 eC
  generalize w64 (a * b) = z at *
  generalize mulHi a b = q at *
  generalize a * b = p at *
  generalize lim w 0 = u at *
  generalize lim w 1 = v at *
  refine ⟨⟨⟨by omega, by omega⟩, ⟨by omega, by omega⟩⟩, by omega⟩

/-- one product more: what the number is, and a bound -/
def wq (w : Value) (s S : Int) : Prop := wok w ∧ wv w = s ∧ 0 ≤ s ∧ s ≤ S
theorem wstep {w : Value} {s S a b A B T : Int} (h : wq w s S) (ha : 0 ≤ a ∧ a ≤ A) (hb : 0 ≤ b ∧ b ≤ B) (hA : A < 18446744073709551616) (hB : B < 18446744073709551616) (hS : S + A * B ≤ T) (hT : T < 340282366920938463463374607431768211456) :
    wq (wadd w a b) (s + a * b) T := by
  obtain ⟨h1, h2, h3, h4⟩ := h
  have hp := prod_b ha hb
  obtain ⟨r1, r2⟩ := wadd_val h1 (a := a) (b := b) ⟨ha.1, by omega⟩ ⟨hb.1, by omega⟩ (by omega)
  exact ⟨r1, by rw [r2, h2], by omega, by omega⟩
theorem wq_wz : wq wz 0 0 := ⟨⟨⟨by decide, by decide⟩, ⟨by decide, by decide⟩⟩, by decide, by decide, by decide⟩

/-! ## cut, tight -/
theorem or64_nat {x y : Int} (hx : 0 ≤ x ∧ x < 18446744073709551616) (hy : 0 ≤ y ∧ y < 18446744073709551616) : or64 x y = ((x.toNat ||| y.toNat : Nat) : Int) := by
  have h := (BitVec.ofInt 64 x ||| BitVec.ofInt 64 y).isLt
  rw [or64, wrap_u64]
  have e : (BitVec.ofInt 64 x ||| BitVec.ofInt 64 y).toNat = x.toNat ||| y.toNat := by
    rw [BitVec.toNat_or, BitVec.toNat_ofInt, BitVec.toNat_ofInt]
    congr 1 <;> omega
  rw [e] at h ⊢
  omega
theorem cutH_val {h l : Int} (hh : 0 ≤ h ∧ h < 2251799813685248) (hl : 0 ≤ l ∧ l < 18446744073709551616) : cutH h l = h * 8192 + l / 2251799813685248 := by
  unfold cutH
  rw [sh51, show (2 ^ 13 : Int) = 8192 by decide, w64_id (by omega) (by omega), or64_nat ⟨by omega, by omega⟩ ⟨by omega, by omega⟩]
  have e1 : (h * 8192).toNat = 2 ^ 13 * h.toNat := by omega
  have e2 : (l / 2251799813685248).toNat < 2 ^ 13 := by omega
  rw [e1, ← Nat.two_pow_add_eq_or_of_lt e2]
  omega
theorem tgh_val {a b c d e : Value} (ha : wok a) (hb : wok b) (hc : wok c) (hd : wok d) (he : wok e)
    (qa : wv a < 5192296858534827628530496329220096) (qb : wv b < 5192296858534827628530496329220096) (qc : wv c < 5192296858534827628530496329220096) (qd : wv d < 5192296858534827628530496329220096) (qe : wv e < 1298074214633706907132624082305024) :
    (∃ k, valE (tghV (five a b c d e)) = wv a + 2251799813685248 * wv b + 5070602400912917605986812821504 * wv c + 11417981541647679048466287755595961091061972992 * wv d + 25711008708143844408671393477458601640355247900524685364822016 * wv e - PP * k) ∧
    bnd (tghV (five a b c d e)) TT := by
  obtain ⟨ha0, ha1⟩ := ha
  obtain ⟨hb0, hb1⟩ := hb
  obtain ⟨hc0, hc1⟩ := hc
  obtain ⟨hd0, hd1⟩ := hd
  obtain ⟨he0, he1⟩ := he
  unfold wv at *
  generalize hz : ints [w64 (lowI (five a b c d e) 0 + w64 (19 * abvI (five a b c d e) 4)), w64 (lowI (five a b c d e) 1 + abvI (five a b c d e) 0), w64 (lowI (five a b c d e) 2 + abvI (five a b c d e) 1), w64 (lowI (five a b c d e) 3 + abvI (five a b c d e) 2), w64 (lowI (five a b c d e) 4 + abvI (five a b c d e) 3)] = z
  have et : tghV (five a b c d e) = carryV z := by rw [← hz]; rfl
  have g0 : abvI (five a b c d e) 0 = cutH (lim a 0) (lim a 1) := rfl
  have g1 : abvI (five a b c d e) 1 = cutH (lim b 0) (lim b 1) := rfl
  have g2 : abvI (five a b c d e) 2 = cutH (lim c 0) (lim c 1) := rfl
  have g3 : abvI (five a b c d e) 3 = cutH (lim d 0) (lim d 1) := rfl
  have g4 : abvI (five a b c d e) 4 = cutH (lim e 0) (lim e 1) := rfl
  rw [cutH_val ⟨ha0.1, by omega⟩ ha1] at g0
  rw [cutH_val ⟨hb0.1, by omega⟩ hb1] at g1
  rw [cutH_val ⟨hc0.1, by omega⟩ hc1] at g2
  rw [cutH_val ⟨hd0.1, by omega⟩ hd1] at g3
  rw [cutH_val ⟨he0.1, by omega⟩ he1] at g4
  have i0 : lowI (five a b c d e) 0 = lim a 1 % 2251799813685248 := and_M51 _
  have i1 : lowI (five a b c d e) 1 = lim b 1 % 2251799813685248 := and_M51 _
  have i2 : lowI (five a b c d e) 2 = lim c 1 % 2251799813685248 := and_M51 _
  have i3 : lowI (five a b c d e) 3 = lim d 1 % 2251799813685248 := and_M51 _
  have i4 : lowI (five a b c d e) 4 = lim e 1 % 2251799813685248 := and_M51 _
  have l0 : lim z 0 = w64 (lowI (five a b c d e) 0 + w64 (19 * abvI (five a b c d e) 4)) := by rw [← hz]; rfl
  have l1 : lim z 1 = w64 (lowI (five a b c d e) 1 + abvI (five a b c d e) 0) := by rw [← hz]; rfl
  have l2 : lim z 2 = w64 (lowI (five a b c d e) 2 + abvI (five a b c d e) 1) := by rw [← hz]; rfl
  have l3 : lim z 3 = w64 (lowI (five a b c d e) 3 + abvI (five a b c d e) 2) := by rw [← hz]; rfl
  have l4 : lim z 4 = w64 (lowI (five a b c d e) 4 + abvI (five a b c d e) 3) := by rw [← hz]; rfl
  rw [i0, g4, w64_id (x := 19 * _) (by omega) (by omega), w64_id (by omega) (by omega)] at l0
  rw [i1, g0, w64_id (by omega) (by omega)] at l1
  rw [i2, g1, w64_id (by omega) (by omega)] at l2
  rw [i3, g2, w64_id (by omega) (by omega)] at l3
  rw [i4, g3, w64_id (by omega) (by omega)] at l4
  clear hz g0 g1 g2 g3 g4 i0 i1 i2 i3 i4
  rw [et]
  obtain ⟨q, q0, q1, q2, q3, q4⟩ := carry_val (x := z) ⟨⟨by omega, by omega⟩, ⟨by omega, by omega⟩, ⟨by omega, by omega⟩, ⟨by omega, by omega⟩, ⟨by omega, by omega⟩⟩
  refine ⟨⟨lim z 4 / 2251799813685248 + (lim e 0 * 8192 + lim e 1 / 2251799813685248), ?_⟩, ?_⟩
  · rw [q]
    have hv : valE z = lim z 0 + 2251799813685248 * lim z 1 + 5070602400912917605986812821504 * lim z 2 + 11417981541647679048466287755595961091061972992 * lim z 3 + 25711008708143844408671393477458601640355247900524685364822016 * lim z 4 := rfl
    generalize lim z 4 / 2251799813685248 = k at *
    clear q q0 q1 q2 q3 q4
    unfold PP
    omega
  · unfold bnd TT
    clear q et
    refine ⟨⟨q0.1, by omega⟩, ⟨q1.1, by omega⟩, ⟨q2.1, by omega⟩, ⟨q3.1, by omega⟩, ⟨q4.1, by omega⟩⟩


/-! ## Mul -/
theorem x19_val {x : Value} {i : Nat} (h : 0 ≤ lim x i ∧ lim x i ≤ 4503599627370496) : x19 x i = 19 * lim x i ∧ 0 ≤ 19 * lim x i ∧ 19 * lim x i ≤ 85568392920039424 := by
  refine ⟨w64_id (by omega) (by omega), by omega, by omega⟩
theorem x2_val {x : Value} {i : Nat} (h : 0 ≤ lim x i ∧ lim x i ≤ 4503599627370496) : x2 x i = lim x i * 2 ∧ 0 ≤ lim x i * 2 ∧ lim x i * 2 ≤ 9007199254740992 := by
  refine ⟨w64_id (by omega) (by omega), by omega, by omega⟩

theorem mW0_val {x y : Value} (hx : bnd x TT) (hy : bnd y TT) : wq (mW05 x y) (((((0 + lim x 0 * lim y 0) + (19 * lim x 1) * lim y 4) + (19 * lim x 2) * lim y 3) + (19 * lim x 3) * lim y 2) + (19 * lim x 4) * lim y 1) 1561745539481178622643938349023232 := by
  obtain ⟨hx0, hx1, hx2, hx3, hx4⟩ := hx
  obtain ⟨hy0, hy1, hy2, hy3, hy4⟩ := hy
  have h := (wstep (T := 1561745539481178622643938349023232) (wstep (T := 1176379757011796884588940574588928) (wstep (T := 791013974542415146533942800154624) (wstep (T := 405648192073033408478945025720320) (wstep (T := 20282409603651670423947251286016) wq_wz hx0 hy0 (by decide) (by decide) (by decide) (by decide)) (x19_val hx1).2 hy4 (by decide) (by decide) (by decide) (by decide)) (x19_val hx2).2 hy3 (by decide) (by decide) (by decide) (by decide)) (x19_val hx3).2 hy2 (by decide) (by decide) (by decide) (by decide)) (x19_val hx4).2 hy1 (by decide) (by decide) (by decide) (by decide))
  unfold mW05 mW04 mW03 mW02 mW01
  rw [(x19_val hx1).1, (x19_val hx2).1, (x19_val hx3).1, (x19_val hx4).1]
  exact h
theorem mW1_val {x y : Value} (hx : bnd x TT) (hy : bnd y TT) : wq (mW15 x y) (((((0 + lim x 0 * lim y 1) + lim x 1 * lim y 0) + (19 * lim x 2) * lim y 4) + (19 * lim x 3) * lim y 3) + (19 * lim x 4) * lim y 2) 1196662166615448555012887825874944 := by
  obtain ⟨hx0, hx1, hx2, hx3, hx4⟩ := hx
  obtain ⟨hy0, hy1, hy2, hy3, hy4⟩ := hy
  have h := (wstep (T := 1196662166615448555012887825874944) (wstep (T := 811296384146066816957890051440640) (wstep (T := 425930601676685078902892277006336) (wstep (T := 40564819207303340847894502572032) (wstep (T := 20282409603651670423947251286016) wq_wz hx0 hy1 (by decide) (by decide) (by decide) (by decide)) hx1 hy0 (by decide) (by decide) (by decide) (by decide)) (x19_val hx2).2 hy4 (by decide) (by decide) (by decide) (by decide)) (x19_val hx3).2 hy3 (by decide) (by decide) (by decide) (by decide)) (x19_val hx4).2 hy2 (by decide) (by decide) (by decide) (by decide))
  unfold mW15 mW14 mW13 mW12 mW11
  rw [(x19_val hx2).1, (x19_val hx3).1, (x19_val hx4).1]
  exact h
theorem mW2_val {x y : Value} (hx : bnd x TT) (hy : bnd y TT) : wq (mW25 x y) (((((0 + lim x 0 * lim y 2) + lim x 1 * lim y 1) + lim x 2 * lim y 0) + (19 * lim x 3) * lim y 4) + (19 * lim x 4) * lim y 3) 831578793749718487381837302726656 := by
  obtain ⟨hx0, hx1, hx2, hx3, hx4⟩ := hx
  obtain ⟨hy0, hy1, hy2, hy3, hy4⟩ := hy
  have h := (wstep (T := 831578793749718487381837302726656) (wstep (T := 446213011280336749326839528292352) (wstep (T := 60847228810955011271841753858048) (wstep (T := 40564819207303340847894502572032) (wstep (T := 20282409603651670423947251286016) wq_wz hx0 hy2 (by decide) (by decide) (by decide) (by decide)) hx1 hy1 (by decide) (by decide) (by decide) (by decide)) hx2 hy0 (by decide) (by decide) (by decide) (by decide)) (x19_val hx3).2 hy4 (by decide) (by decide) (by decide) (by decide)) (x19_val hx4).2 hy3 (by decide) (by decide) (by decide) (by decide))
  unfold mW25 mW24 mW23 mW22 mW21
  rw [(x19_val hx3).1, (x19_val hx4).1]
  exact h
theorem mW3_val {x y : Value} (hx : bnd x TT) (hy : bnd y TT) : wq (mW35 x y) (((((0 + lim x 0 * lim y 3) + lim x 1 * lim y 2) + lim x 2 * lim y 1) + lim x 3 * lim y 0) + (19 * lim x 4) * lim y 4) 466495420883988419750786779578368 := by
  obtain ⟨hx0, hx1, hx2, hx3, hx4⟩ := hx
  obtain ⟨hy0, hy1, hy2, hy3, hy4⟩ := hy
  have h := (wstep (T := 466495420883988419750786779578368) (wstep (T := 81129638414606681695789005144064) (wstep (T := 60847228810955011271841753858048) (wstep (T := 40564819207303340847894502572032) (wstep (T := 20282409603651670423947251286016) wq_wz hx0 hy3 (by decide) (by decide) (by decide) (by decide)) hx1 hy2 (by decide) (by decide) (by decide) (by decide)) hx2 hy1 (by decide) (by decide) (by decide) (by decide)) hx3 hy0 (by decide) (by decide) (by decide) (by decide)) (x19_val hx4).2 hy4 (by decide) (by decide) (by decide) (by decide))
  unfold mW35 mW34 mW33 mW32 mW31
  rw [(x19_val hx4).1]
  exact h
theorem mW4_val {x y : Value} (hx : bnd x TT) (hy : bnd y TT) : wq (mW45 x y) (((((0 + lim x 0 * lim y 4) + lim x 1 * lim y 3) + lim x 2 * lim y 2) + lim x 3 * lim y 1) + lim x 4 * lim y 0) 101412048018258352119736256430080 := by
  obtain ⟨hx0, hx1, hx2, hx3, hx4⟩ := hx
  obtain ⟨hy0, hy1, hy2, hy3, hy4⟩ := hy
  have h := (wstep (T := 101412048018258352119736256430080) (wstep (T := 81129638414606681695789005144064) (wstep (T := 60847228810955011271841753858048) (wstep (T := 40564819207303340847894502572032) (wstep (T := 20282409603651670423947251286016) wq_wz hx0 hy4 (by decide) (by decide) (by decide) (by decide)) hx1 hy3 (by decide) (by decide) (by decide) (by decide)) hx2 hy2 (by decide) (by decide) (by decide) (by decide)) hx3 hy1 (by decide) (by decide) (by decide) (by decide)) hx4 hy0 (by decide) (by decide) (by decide) (by decide))
  exact h
theorem mul_tight {x y : Value} (hx : bnd x TT) (hy : bnd y TT) : FV (tghV (mW x y)) = FV x * FV y ∧ bnd (tghV (mW x y)) TT := by
  obtain ⟨a1, a2, a3, a4⟩ := mW0_val hx hy
  obtain ⟨b1, b2, b3, b4⟩ := mW1_val hx hy
  obtain ⟨c1, c2, c3, c4⟩ := mW2_val hx hy
  obtain ⟨d1, d2, d3, d4⟩ := mW3_val hx hy
  obtain ⟨e1, e2, e3, e4⟩ := mW4_val hx hy
  obtain ⟨⟨k, hk⟩, hb⟩ := tgh_val a1 b1 c1 d1 e1 (by rw [a2]; omega) (by rw [b2]; omega) (by rw [c2]; omega) (by rw [d2]; omega) (by rw [e2]; omega)
  refine ⟨?_, hb⟩
  have key : valE (tghV (mW x y)) = valE x * valE y - PP * (k + (lim x 1 * lim y 4 + lim x 2 * lim y 3 + lim x 3 * lim y 2 + lim x 4 * lim y 1
      + 2251799813685248 * (lim x 2 * lim y 4 + lim x 3 * lim y 3 + lim x 4 * lim y 2) + 5070602400912917605986812821504 * (lim x 3 * lim y 4 + lim x 4 * lim y 3) + 11417981541647679048466287755595961091061972992 * (lim x 4 * lim y 4))) := by
    unfold mW
    rw [hk, a2, b2, c2, d2, e2]
    clear hk a2 b2 c2 d2 e2 a3 b3 c3 d3 e3 a4 b4 c4 d4 e4 a1 b1 c1 d1 e1 hb hx hy
    unfold valE PP
    generalize lim x 0 = u0
    generalize lim x 1 = u1
    generalize lim x 2 = u2
    generalize lim x 3 = u3
    generalize lim x 4 = u4
    generalize lim y 0 = v0
    generalize lim y 1 = v1
    generalize lim y 2 = v2
    generalize lim y 3 = v3
    generalize lim y 4 = v4
    grind
  unfold FV
  rw [key, FI_sub_mul, FI_mul]
theorem add_zE {x : Value} (hx : bnd x LL) : bnd (addV x zE) TT ∧ FV (addV x zE) = FV x := by
  refine ⟨(add_val hx bnd_zE).2, ?_⟩
  have h : FV (addV x zE) = FV x + FV zE := FV_add hx bnd_zE
  rw [h, show FV zE = 0 from FV_zE]
  grind
theorem mul_FV {x y : Value} (hx : bnd x LL) (hy : bnd y LL) : FV (mulV x y) = FV x * FV y ∧ bnd (mulV x y) TT := by
  obtain ⟨h1, h2⟩ := mul_tight (add_zE hx).1 (add_zE hy).1
  rw [(add_zE hx).2, (add_zE hy).2] at h1
  exact ⟨h1, h2⟩

theorem sW0_val {x : Value} (hx : bnd x TT) : wq (sW03 x) (((0 + lim x 0 * lim x 0) + (19 * lim x 1) * (lim x 4 * 2)) + (19 * lim x 2) * (lim x 3 * 2)) 1561745539481178622643938349023232 := by
  obtain ⟨hx0, hx1, hx2, hx3, hx4⟩ := hx
  have h := (wstep (T := 1561745539481178622643938349023232) (wstep (T := 791013974542415146533942800154624) (wstep (T := 20282409603651670423947251286016) wq_wz hx0 hx0 (by decide) (by decide) (by decide) (by decide)) (x19_val hx1).2 (x2_val hx4).2 (by decide) (by decide) (by decide) (by decide)) (x19_val hx2).2 (x2_val hx3).2 (by decide) (by decide) (by decide) (by decide))
  unfold sW03 sW02 sW01
  rw [(x19_val hx1).1, (x2_val hx4).1, (x19_val hx2).1, (x2_val hx3).1]
  exact h
theorem sW1_val {x : Value} (hx : bnd x TT) : wq (sW13 x) (((0 + lim x 0 * (lim x 1 * 2)) + (19 * lim x 2) * (lim x 4 * 2)) + (19 * lim x 3) * lim x 3) 1196662166615448555012887825874944 := by
  obtain ⟨hx0, hx1, hx2, hx3, hx4⟩ := hx
  have h := (wstep (T := 1196662166615448555012887825874944) (wstep (T := 811296384146066816957890051440640) (wstep (T := 40564819207303340847894502572032) wq_wz hx0 (x2_val hx1).2 (by decide) (by decide) (by decide) (by decide)) (x19_val hx2).2 (x2_val hx4).2 (by decide) (by decide) (by decide) (by decide)) (x19_val hx3).2 hx3 (by decide) (by decide) (by decide) (by decide))
  unfold sW13 sW12 sW11
  rw [(x2_val hx1).1, (x19_val hx2).1, (x2_val hx4).1, (x19_val hx3).1]
  exact h
theorem sW2_val {x : Value} (hx : bnd x TT) : wq (sW23 x) (((0 + lim x 0 * (lim x 2 * 2)) + lim x 1 * lim x 1) + (19 * lim x 3) * (lim x 4 * 2)) 831578793749718487381837302726656 := by
  obtain ⟨hx0, hx1, hx2, hx3, hx4⟩ := hx
  have h := (wstep (T := 831578793749718487381837302726656) (wstep (T := 60847228810955011271841753858048) (wstep (T := 40564819207303340847894502572032) wq_wz hx0 (x2_val hx2).2 (by decide) (by decide) (by decide) (by decide)) hx1 hx1 (by decide) (by decide) (by decide) (by decide)) (x19_val hx3).2 (x2_val hx4).2 (by decide) (by decide) (by decide) (by decide))
  unfold sW23 sW22 sW21
  rw [(x2_val hx2).1, (x19_val hx3).1, (x2_val hx4).1]
  exact h
theorem sW3_val {x : Value} (hx : bnd x TT) : wq (sW33 x) (((0 + lim x 0 * (lim x 3 * 2)) + lim x 1 * (lim x 2 * 2)) + (19 * lim x 4) * lim x 4) 466495420883988419750786779578368 := by
  obtain ⟨hx0, hx1, hx2, hx3, hx4⟩ := hx
  have h := (wstep (T := 466495420883988419750786779578368) (wstep (T := 81129638414606681695789005144064) (wstep (T := 40564819207303340847894502572032) wq_wz hx0 (x2_val hx3).2 (by decide) (by decide) (by decide) (by decide)) hx1 (x2_val hx2).2 (by decide) (by decide) (by decide) (by decide)) (x19_val hx4).2 hx4 (by decide) (by decide) (by decide) (by decide))
  unfold sW33 sW32 sW31
  rw [(x2_val hx3).1, (x2_val hx2).1, (x19_val hx4).1]
  exact h
theorem sW4_val {x : Value} (hx : bnd x TT) : wq (sW43 x) (((0 + lim x 0 * (lim x 4 * 2)) + lim x 1 * (lim x 3 * 2)) + lim x 2 * lim x 2) 101412048018258352119736256430080 := by
  obtain ⟨hx0, hx1, hx2, hx3, hx4⟩ := hx
  have h := (wstep (T := 101412048018258352119736256430080) (wstep (T := 81129638414606681695789005144064) (wstep (T := 40564819207303340847894502572032) wq_wz hx0 (x2_val hx4).2 (by decide) (by decide) (by decide) (by decide)) hx1 (x2_val hx3).2 (by decide) (by decide) (by decide) (by decide)) hx2 hx2 (by decide) (by decide) (by decide) (by decide))
  unfold sW43 sW42 sW41
  rw [(x2_val hx4).1, (x2_val hx3).1]
  exact h
theorem sq_tight {x : Value} (hx : bnd x TT) : FV (tghV (sW x)) = FV x * FV x ∧ bnd (tghV (sW x)) TT := by
  obtain ⟨a1, a2, a3, a4⟩ := sW0_val hx
  obtain ⟨b1, b2, b3, b4⟩ := sW1_val hx
  obtain ⟨c1, c2, c3, c4⟩ := sW2_val hx
  obtain ⟨d1, d2, d3, d4⟩ := sW3_val hx
  obtain ⟨e1, e2, e3, e4⟩ := sW4_val hx
  obtain ⟨⟨k, hk⟩, hb⟩ := tgh_val a1 b1 c1 d1 e1 (by rw [a2]; omega) (by rw [b2]; omega) (by rw [c2]; omega) (by rw [d2]; omega) (by rw [e2]; omega)
  refine ⟨?_, hb⟩
  have key : valE (tghV (sW x)) = valE x * valE x - PP * (k + (2 * (lim x 1 * lim x 4) + 2 * (lim x 2 * lim x 3)
      + 2251799813685248 * (2 * (lim x 2 * lim x 4) + lim x 3 * lim x 3) + 5070602400912917605986812821504 * (2 * (lim x 3 * lim x 4)) + 11417981541647679048466287755595961091061972992 * (lim x 4 * lim x 4))) := by
    unfold sW
    rw [hk, a2, b2, c2, d2, e2]
    clear hk a2 b2 c2 d2 e2 a3 b3 c3 d3 e3 a4 b4 c4 d4 e4 a1 b1 c1 d1 e1 hb hx
    unfold valE PP
    generalize lim x 0 = u0
    generalize lim x 1 = u1
    generalize lim x 2 = u2
    generalize lim x 3 = u3
    generalize lim x 4 = u4
    grind
  unfold FV
  rw [key, FI_sub_mul, FI_mul]
theorem sq_FV {x : Value} (hx : bnd x LL) : FV (sqV x) = FV x * FV x ∧ bnd (sqV x) TT := by
  obtain ⟨h1, h2⟩ := sq_tight (add_zE hx).1
  rw [(add_zE hx).2] at h1
  exact ⟨h1, h2⟩

/-! ## Times -/
theorem tW_val {a n : Int} (ha : 0 ≤ a ∧ a ≤ LL) (hn : 0 ≤ n ∧ n ≤ 4294967295) : wq (wadd wz a n) (0 + a * n) 77371252455336267181195264 :=
  wstep wq_wz ha hn (by decide) (by decide) (by decide) (by decide)
theorem times_FV {x : Value} (hx : bnd x LL) {k : IntKind} {n : Int} (hn : 0 ≤ n ∧ n ≤ 4294967295) : FV (timesV x (.int k n)) = FV x * FI n ∧ bnd (timesV x (.int k n)) TT := by
  have en : w64 (intV (.int k n)) = n := w64_id (x := n) hn.1 (by omega)
  unfold timesV
  rw [en]
  obtain ⟨hx0, hx1, hx2, hx3, hx4⟩ := hx
  obtain ⟨a1, a2, a3, a4⟩ := tW_val hx0 hn
  obtain ⟨b1, b2, b3, b4⟩ := tW_val hx1 hn
  obtain ⟨c1, c2, c3, c4⟩ := tW_val hx2 hn
  obtain ⟨d1, d2, d3, d4⟩ := tW_val hx3 hn
  obtain ⟨e1, e2, e3, e4⟩ := tW_val hx4 hn
  obtain ⟨⟨q, hq⟩, hb⟩ := tgh_val a1 b1 c1 d1 e1 (by rw [a2]; omega) (by rw [b2]; omega) (by rw [c2]; omega) (by rw [d2]; omega) (by rw [e2]; omega)
  refine ⟨?_, hb⟩
  have key : valE (tghV (tW x n)) = valE x * n - PP * q := by
    unfold tW
    rw [hq, a2, b2, c2, d2, e2]
    unfold valE
    generalize PP * q = t
    grind
  unfold FV
  rw [key, FI_sub_mul, FI_mul]
end Go.Proofs.Ythgefjgbkhkmgaa.Ev
