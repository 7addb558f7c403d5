/-
  Layers 4 and 5 in plain words: powers, the ladder.
-/
import Derived.Test.YthgefjgbkhkmgaaKeyE
import Derived.Test.YthgefjgbkhkmgaaComm
namespace Go.Proofs.Ythgefjgbkhkmgaa.Ev
open Go Go.RowKit
open Sap (F P toF pw pw_add pw_pw pw_one pw_zero pw_two)

theorem LL_U64 {x : Value} (h : bnd x LL) : bnd x U64 := bnd_mono h (by decide)
theorem b_mul {x y : Value} (hx : bnd x LL) (hy : bnd y LL) : bnd (mulV x y) LL := bnd_LL (mul_FV hx hy).2
theorem b_sq {x : Value} (hx : bnd x LL) : bnd (sqV x) LL := bnd_LL (sq_FV hx).2
theorem v_mul {x y : Value} (hx : bnd x LL) (hy : bnd y LL) : FV (mulV x y) = FV x * FV y := (mul_FV hx hy).1
theorem v_sq {x : Value} (hx : bnd x LL) : FV (sqV x) = FV x * FV x := (sq_FV hx).1

/-! ## Power -/
theorem powS_val {a o : Value} (ha : bnd a LL) (ho : bnd o LL) {c : Int} : bnd (powS a o c) LL ∧ (c % 2 = 0 → FV (powS a o c) = FV o * FV o) ∧ (c % 2 = 1 → FV (powS a o c) = FV o * FV o * FV a) := by
  have h1 := b_sq ho
  have h2 := b_mul h1 ha
  have e0 : c % 2 = 0 → powS a o c = nrm (sqV o) := fun h => swB_even h (LL_U64 h1)
  have e1 : c % 2 = 1 → powS a o c = nrm (mulV (sqV o) a) := fun h => swB_odd h (LL_U64 h2)
  rcases (by omega : c % 2 = 0 ∨ c % 2 = 1) with h | h
  · refine ⟨by rw [e0 h]; exact bnd_nrm h1, fun _ => by rw [e0 h, FV_nrm, v_sq ho], fun h' => by omega⟩
  · refine ⟨by rw [e1 h]; exact bnd_nrm h2, fun h' => by omega, fun _ => by rw [e1 h, FV_nrm, v_mul h1 ha, v_sq ho]⟩
theorem toNat_div {K : Int} (h : 0 ≤ K) (n : Nat) : K.toNat / 2 ^ n % 2 = (K / 2 ^ n % 2).toNat := by
  obtain ⟨m, rfl⟩ := Int.eq_ofNat_of_zero_le h
  have e : ((m / 2 ^ n % 2 : Nat) : Int) = (m : Int) / 2 ^ n % 2 := by simp
  rw [← e, Int.toNat_natCast, Int.toNat_natCast]
theorem numK_nonneg {f : Nat → Int} (hf : isK f) : 0 ≤ numK f ∧ (numK f).toNat < 2 ^ 256 := by
  obtain ⟨h0, h1⟩ := hn_range hf 32 0 (by omega)
  have e32 : (256 : Int) ^ 32 = 115792089237316195423570985008687907853269984665640564039457584007913129639936 := by decide
  rw [e32] at h1
  refine ⟨h0, ?_⟩
  have e : (2 ^ 256 : Nat) = 115792089237316195423570985008687907853269984665640564039457584007913129639936 := by decide
  rw [e]
  unfold numK
  omega
theorem half_step (K n : Nat) (h : n < 256) : K / 2 ^ (256 - (n + 1)) = 2 * (K / 2 ^ (256 - n)) + K / 2 ^ (255 - n) % 2 := by
  rw [show 256 - (n + 1) = 255 - n by omega, show 256 - n = (255 - n) + 1 by omega, Nat.pow_succ, ← Nat.div_div_eq_div_mul]
  omega
theorem powN_val {a : Value} (ha : bnd a LL) {f : Nat → Int} (hf : isK f) : ∀ n, n ≤ 256 → bnd (powN a (vK f) n) LL ∧ FV (powN a (vK f) n) = pw (FV a) ((numK f).toNat / 2 ^ (256 - n)) := by
  obtain ⟨k0, k1⟩ := numK_nonneg hf
  intro n
  induction n with
  | zero =>
    intro _
    refine ⟨one_val.1, ?_⟩
    rw [show powN a (vK f) 0 = one from rfl, one_val.2, Nat.sub_zero, Nat.div_eq_of_lt k1, pw_zero]
  | succ n ih =>
    intro hn
    obtain ⟨h1, h2⟩ := ih (by omega)
    obtain ⟨q1, q2, q3⟩ := powS_val ha h1 (c := kb (vK f) (255 - n))
    obtain ⟨m1, m2, m3⟩ := kb_val hf (i := 255 - n) (by omega)
    have hb := toNat_div k0 (255 - n)
    rw [half_step _ _ (by omega)]
    rw [← m1] at hb
    refine ⟨q1, ?_⟩
    show FV (powS a (powN a (vK f) n) (kb (vK f) (255 - n))) = _
    rcases (by omega : kb (vK f) (255 - n) % 2 = 0 ∨ kb (vK f) (255 - n) % 2 = 1) with h | h
    · rw [h] at hb
      rw [q2 h, h2, hb, ← pw_add]
      congr 1
      show _ = 2 * _ + 0
      omega
    · rw [h] at hb
      rw [q3 h, h2, hb]
      show _ = pw _ (2 * _ + 1)
      rw [pw_add, pw_one, Nat.two_mul, pw_add]
theorem pow_val {a : Value} (ha : bnd a LL) {f : Nat → Int} (hf : isK f) : bnd (powV a (vK f)) LL ∧ FV (powV a (vK f)) = pw (FV a) (numK f).toNat := by
  have := powN_val ha hf 256 (Nat.le_refl _)
  rw [Nat.sub_self, Nat.pow_zero, Nat.div_one] at this
  exact this

/-! ## Invert -/
def isPw (a : F) (x : Value) (n : Nat) : Prop := bnd x LL ∧ FV x = pw a n
theorem isPw_mul {a : F} {x y : Value} {m n k : Nat} (hx : isPw a x m) (hy : isPw a y n) (h : m + n = k) : isPw a (mulV x y) k :=
  ⟨b_mul hx.1 hy.1, by rw [v_mul hx.1 hy.1, hx.2, hy.2, ← pw_add, h]⟩
theorem isPw_sq {a : F} {x : Value} {m k : Nat} (hx : isPw a x m) (h : 2 * m = k) : isPw a (sqV x) k :=
  ⟨b_sq hx.1, by rw [v_sq hx.1, hx.2, ← pw_add, ← h, Nat.two_mul]⟩
theorem isPw_sqN {a : F} {x : Value} {m : Nat} (hx : isPw a x m) : ∀ n, isPw a (sqN x n) (m * 2 ^ n) := by
  intro n
  induction n with
  | zero => rw [Nat.pow_zero, Nat.mul_one]; exact hx
  | succ n ih => exact isPw_sq ih (by rw [Nat.pow_succ, Nat.mul_comm 2, Nat.mul_assoc])
theorem isPw_rN {a : F} {x : Value} {m : Nat} (hx : isPw a x m) (n : Nat) : isPw a (rN x n) (m * 2 ^ n) := by
  obtain ⟨h1, h2⟩ := isPw_sqN hx n
  exact ⟨bnd_nrm h1, by rw [rN, FV_nrm, h2]⟩
theorem inv_val {a : Value} (ha : bnd a LL) : bnd (invV a) LL ∧ FV (invV a) = Sap.inv (FV a) := by
  have h1 : isPw (FV a) a 1 := ⟨ha, by rw [pw_one]⟩
  have h2 : isPw (FV a) (i2 a) 2 := isPw_sq h1 rfl
  have h9 : isPw (FV a) (i9 a) 9 := isPw_mul (isPw_rN h2 2) h1 rfl
  have h11 : isPw (FV a) (i11 a) 11 := isPw_mul h9 h2 rfl
  have g5 : isPw (FV a) (b5 a) 31 := isPw_mul (isPw_sq h11 rfl) h9 rfl
  have g10 : isPw (FV a) (b10 a) 1023 := isPw_mul (isPw_rN g5 5) g5 (by decide)
  have g20 : isPw (FV a) (b20 a) 1048575 := isPw_mul (isPw_rN g10 10) g10 (by decide)
  have g40 : isPw (FV a) (b40 a) 1099511627775 := isPw_mul (isPw_rN g20 20) g20 (by decide)
  have g50 : isPw (FV a) (b50 a) 1125899906842623 := isPw_mul (isPw_rN g40 10) g10 (by decide)
  have g100 : isPw (FV a) (b100 a) 1267650600228229401496703205375 := isPw_mul (isPw_rN g50 50) g50 (by decide)
  have g200 : isPw (FV a) (b200 a) 1606938044258990275541962092341162602522202993782792835301375 := isPw_mul (isPw_rN g100 100) g100 (by decide)
  have g250 : isPw (FV a) (b250 a) 1809251394333065553493296640760748560207343510400633813116524750123642650623 := isPw_mul (isPw_rN g200 50) g50 (by decide)
  have g : isPw (FV a) (invV a) (P - 2) := isPw_mul (isPw_rN g250 5) h11 (by decide)
  exact g

/-! ## The ladder -/
theorem pX_pr (x z : Value) : pX (pr x z) = nrm x := rfl
theorem pZ_pr (x z : Value) : pZ (pr x z) = nrm z := rfl
def pb (p : Value) : Prop := bnd (pX p) LL ∧ bnd (pZ p) LL
theorem st_val {x a b : Value} (hx : bnd x LL) (ha : pb a) (hb : pb b) : pb (stA a) ∧ pb (stB x a b) ∧
    (⟨FV (pX (stA a)), FV (pZ (stA a)), FV (pX (stB x a b)), FV (pZ (stB x a b))⟩ : Sap.St) = Sap.lstep (FV x) (FV (pX a)) (FV (pZ a)) (FV (pX b)) (FV (pZ b)) := by
  obtain ⟨a1, a2⟩ := ha
  obtain ⟨b1, b2⟩ := hb
  have hp : bnd (stP a) LL := bnd_add a1 a2
  have hq : bnd (stQ a) LL := bnd_sub a1 a2
  have hr : bnd (stP b) LL := bnd_add b1 b2
  have hs : bnd (stQ b) LL := bnd_sub b1 b2
  have vp : FV (stP a) = FV (pX a) + FV (pZ a) := FV_add a1 a2
  have vq : FV (stQ a) = FV (pX a) - FV (pZ a) := FV_sub a1 a2
  have vr : FV (stP b) = FV (pX b) + FV (pZ b) := FV_add b1 b2
  have vs : FV (stQ b) = FV (pX b) - FV (pZ b) := FV_sub b1 b2
  have hE : bnd (stE a) LL := bnd_sub (b_sq hp) (b_sq hq)
  have vE : FV (stE a) = FV (stP a) * FV (stP a) - FV (stQ a) * FV (stQ a) := by
    rw [stE, FV_sub (b_sq hp) (b_sq hq), v_sq hp, v_sq hq]
  have t := times_FV hE (k := .u32) (n := 121665) ⟨by decide, by decide⟩
  have hda := b_mul hs hp
  have hcb := b_mul hr hq
  have s1 := bnd_add hda hcb
  have s2 := bnd_sub hda hcb
  have u := bnd_add (b_sq hp) (bnd_LL t.2)
  have z1 : bnd (pX (stA a)) LL := by rw [stA, pX_pr]; exact bnd_nrm (b_mul (b_sq hp) (b_sq hq))
  have z2 : bnd (pZ (stA a)) LL := by rw [stA, pZ_pr]; exact bnd_nrm (b_mul hE u)
  have z3 : bnd (pX (stB x a b)) LL := by rw [stB, pX_pr]; exact bnd_nrm (b_sq s1)
  have z4 : bnd (pZ (stB x a b)) LL := by rw [stB, pZ_pr]; exact bnd_nrm (b_mul hx (b_sq s2))
  refine ⟨⟨z1, z2⟩, ⟨z3, z4⟩, ?_⟩
  have w1 : FV (pX (stA a)) = FV (stP a) * FV (stP a) * (FV (stQ a) * FV (stQ a)) := by
    rw [stA, pX_pr, FV_nrm, v_mul (b_sq hp) (b_sq hq), v_sq hp, v_sq hq]
  have w2 : FV (pZ (stA a)) = FV (stE a) * (FV (stP a) * FV (stP a) + FV (stE a) * FI 121665) := by
    rw [stA, pZ_pr, FV_nrm, v_mul hE u, FV_add (b_sq hp) (bnd_LL t.2), t.1, v_sq hp]
  have w3 : FV (pX (stB x a b)) = (FV (stQ b) * FV (stP a) + FV (stP b) * FV (stQ a)) * (FV (stQ b) * FV (stP a) + FV (stP b) * FV (stQ a)) := by
    rw [stB, pX_pr, FV_nrm, v_sq s1, FV_add hda hcb, v_mul hs hp, v_mul hr hq]
  have w4 : FV (pZ (stB x a b)) = FV x * ((FV (stQ b) * FV (stP a) - FV (stP b) * FV (stQ a)) * (FV (stQ b) * FV (stP a) - FV (stP b) * FV (stQ a))) := by
    rw [stB, pZ_pr, FV_nrm, v_mul hx (b_sq s2), v_sq s2, FV_sub hda hcb, v_mul hs hp, v_mul hr hq]
  have h24 : FI 121665 = Sap.a24 := FI_nat 121665
  rw [w1, w2, w3, w4, vE, vp, vq, vr, vs, h24]
  unfold Sap.lstep
  congr 1
  generalize FV (pX a) = A
  generalize FV (pZ a) = B
  generalize Sap.a24 = C
  grind

def sv (s : LS) : Sap.St := ⟨FV (pX s.a), FV (pZ s.a), FV (pX s.b), FV (pZ s.b)⟩
theorem sp_even {m : Int} (hm : m % 2 = 0) {a b : Value} (ha : pb a) (hb : pb b) : spA (maskI m) a b = pr (pX a) (pZ a) ∧ spB (maskI m) a b = pr (pX b) (pZ b) := by
  unfold spA spB
  rw [swA_even hm (LL_U64 ha.1), swA_even hm (LL_U64 ha.2), swB_even hm (LL_U64 hb.1), swB_even hm (LL_U64 hb.2)]
  exact ⟨rfl, rfl⟩
theorem sp_odd {m : Int} (hm : m % 2 = 1) {a b : Value} (ha : pb a) (hb : pb b) : spA (maskI m) a b = pr (pX b) (pZ b) ∧ spB (maskI m) a b = pr (pX a) (pZ a) := by
  unfold spA spB
  rw [swA_odd hm (LL_U64 hb.1), swA_odd hm (LL_U64 hb.2), swB_odd hm (LL_U64 ha.1), swB_odd hm (LL_U64 ha.2)]
  exact ⟨rfl, rfl⟩
theorem kbit_val {f : Nat → Int} (hf : isK f) {i : Nat} (hi : i < 256) : kbit (vK f) i = numK f / 2 ^ i % 2 := by
  obtain ⟨m1, m2, m3⟩ := kb_val hf hi
  unfold kbit
  rw [and_one, m1, wrap_i64_id (by omega) (by omega)]
theorem xorI_val {w c : Int} (hw : w = 0 ∨ w = 1) (hc : c = 0 ∨ c = 1) : xorI w c = (if w = c then 0 else 1) := by
  rcases hw with rfl | rfl <;> rcases hc with rfl | rfl <;> decide
theorem pb_pr {a : Value} (h : pb a) : pb (pr (pX a) (pZ a)) := h
/-- what stands behind n rounds -/
theorem ladN_val {x : Value} (hx : bnd x LL) {f : Nat → Int} (hf : isK f) : ∀ n, n ≤ 256 → (pb (ladN x (vK f) n).a ∧ pb (ladN x (vK f) n).b) ∧ ((ladN x (vK f) n).w = 0 ∨ (ladN x (vK f) n).w = 1) ∧
    Sap.lst (FV x) (numK f).toNat 256 n = (if (ladN x (vK f) n).w = 0 then sv (ladN x (vK f) n) else (sv (ladN x (vK f) n)).turn) := by
  obtain ⟨k0, k1⟩ := numK_nonneg hf
  intro n
  induction n with
  | zero =>
    intro _
    refine ⟨⟨⟨bnd_nrm one_val.1, bnd_nrm bnd_zE⟩, ⟨bnd_nrm hx, bnd_nrm one_val.1⟩⟩, Or.inl rfl, ?_⟩
    have hw0 : (ladN x (vK f) 0).w = 0 := rfl
    rw [if_pos hw0]
    show (⟨1, 0, FV x, 1⟩ : Sap.St) = ⟨FV (nrm one), FV (nrm zE), FV (nrm x), FV (nrm one)⟩
    rw [FV_nrm, FV_nrm, FV_nrm, one_val.2]
    rfl
  | succ n ih =>
    intro hn
    obtain ⟨⟨ha, hb⟩, hw, hs⟩ := ih (by omega)
    have hk := kbit_val hf (i := 255 - n) (by omega)
    have hb' := toNat_div k0 (255 - n)
    have hc : kbit (vK f) (255 - n) = 0 ∨ kbit (vK f) (255 - n) = 1 := by rw [hk]; omega
    show (pb (ladS x (ladN x (vK f) n) (kbit (vK f) (255 - n))).a ∧ pb (ladS x (ladN x (vK f) n) (kbit (vK f) (255 - n))).b) ∧ ((ladS x (ladN x (vK f) n) (kbit (vK f) (255 - n))).w = 0 ∨ (ladS x (ladN x (vK f) n) (kbit (vK f) (255 - n))).w = 1) ∧
      Sap.lbit (FV x) ((numK f).toNat / 2 ^ (256 - 1 - n) % 2) (Sap.lst (FV x) (numK f).toNat 256 n) = (if (ladS x (ladN x (vK f) n) (kbit (vK f) (255 - n))).w = 0 then sv (ladS x (ladN x (vK f) n) (kbit (vK f) (255 - n))) else (sv (ladS x (ladN x (vK f) n) (kbit (vK f) (255 - n)))).turn)
    rw [show 256 - 1 - n = 255 - n by omega, hb', ← hk, hs]
    generalize kbit (vK f) (255 - n) = c at *
    generalize ladN x (vK f) n = s at *
    clear hk hb' hs
    have hx' := xorI_val hw hc
    have hm := sp_even (m := 0) rfl ha hb
    have hm' := sp_odd (m := 1) rfl ha hb
    have q0 := st_val hx ha hb
    have q1 := st_val hx hb ha
    have e0 : stA (pr (pX s.a) (pZ s.a)) = stA s.a ∧ stB x (pr (pX s.a) (pZ s.a)) (pr (pX s.b) (pZ s.b)) = stB x s.a s.b := ⟨rfl, rfl⟩
    have e1 : stA (pr (pX s.b) (pZ s.b)) = stA s.b ∧ stB x (pr (pX s.b) (pZ s.b)) (pr (pX s.a) (pZ s.a)) = stB x s.b s.a := ⟨rfl, rfl⟩
    have out : ∀ a' b', (ladS x s c).a = a' → (ladS x s c).b = b' → sv (ladS x s c) = ⟨FV (pX a'), FV (pZ a'), FV (pX b'), FV (pZ b')⟩ := by
      intro a' b' h1 h2
      unfold sv
      rw [h1, h2]
    have hw' : (ladS x s c).w = c := rfl
    rw [hw']
    rcases hw with w0 | w1
    · rcases hc with rfl | rfl
      · have hA : (ladS x s 0).a = stA s.a := by
          show stA (spA (maskI (xorI s.w 0)) s.a s.b) = _
          rw [hx', w0, if_pos rfl, hm.1]; exact e0.1
        have hB : (ladS x s 0).b = stB x s.a s.b := by
          show stB x (spA (maskI (xorI s.w 0)) s.a s.b) (spB (maskI (xorI s.w 0)) s.a s.b) = _
          rw [hx', w0, if_pos rfl, hm.1, hm.2]; exact e0.2
        rw [out _ _ hA hB, hA, hB, if_pos w0, if_pos rfl]
        refine ⟨⟨q0.1, q0.2.1⟩, Or.inl rfl, ?_⟩
        rw [q0.2.2]
        rfl
      · have hA : (ladS x s 1).a = stA s.b := by
          show stA (spA (maskI (xorI s.w 1)) s.a s.b) = _
          rw [hx', w0, if_neg (by decide), hm'.1]; exact e1.1
        have hB : (ladS x s 1).b = stB x s.b s.a := by
          show stB x (spA (maskI (xorI s.w 1)) s.a s.b) (spB (maskI (xorI s.w 1)) s.a s.b) = _
          rw [hx', w0, if_neg (by decide), hm'.1, hm'.2]; exact e1.2
        rw [out _ _ hA hB, hA, hB, if_pos w0, if_neg (by decide)]
        refine ⟨⟨q1.1, q1.2.1⟩, Or.inr rfl, ?_⟩
        rw [q1.2.2]
        rfl
    · rcases hc with rfl | rfl
      · have hA : (ladS x s 0).a = stA s.b := by
          show stA (spA (maskI (xorI s.w 0)) s.a s.b) = _
          rw [hx', w1, if_neg (by decide), hm'.1]; exact e1.1
        have hB : (ladS x s 0).b = stB x s.b s.a := by
          show stB x (spA (maskI (xorI s.w 0)) s.a s.b) (spB (maskI (xorI s.w 0)) s.a s.b) = _
          rw [hx', w1, if_neg (by decide), hm'.1, hm'.2]; exact e1.2
        rw [out _ _ hA hB, hA, hB, if_neg (by rw [w1]; decide), if_pos rfl]
        refine ⟨⟨q1.1, q1.2.1⟩, Or.inl rfl, ?_⟩
        rw [q1.2.2]
        rfl
      · have hA : (ladS x s 1).a = stA s.a := by
          show stA (spA (maskI (xorI s.w 1)) s.a s.b) = _
          rw [hx', w1, if_pos rfl, hm.1]; exact e0.1
        have hB : (ladS x s 1).b = stB x s.a s.b := by
          show stB x (spA (maskI (xorI s.w 1)) s.a s.b) (spB (maskI (xorI s.w 1)) s.a s.b) = _
          rw [hx', w1, if_pos rfl, hm.1, hm.2]; exact e0.2
        rw [out _ _ hA hB, hA, hB, if_neg (by rw [w1]; decide), if_neg (by decide)]
        refine ⟨⟨q0.1, q0.2.1⟩, Or.inr rfl, ?_⟩
        rw [q0.2.2]
        rfl
theorem aff_val {a : Value} (ha : pb a) : bnd (affV a) LL ∧ FV (affV a) = FV (pX a) * Sap.inv (FV (pZ a)) := by
  obtain ⟨h1, h2⟩ := inv_val ha.2
  have h1' := bnd_nrm h1
  exact ⟨b_mul ha.1 h1', by rw [affV, v_mul ha.1 h1', FV_nrm, h2]⟩
/-- **Times is the ladder** -/
theorem lad_val {x : Value} (hx : bnd x LL) {f : Nat → Int} (hf : isK f) : bnd (ladV (vK f) x) LL ∧ FV (ladV (vK f) x) = Sap.lad 256 (numK f).toNat (FV x) := by
  have key : ∀ n, n = 256 → bnd (affV (spA (maskI (ladN x (vK f) n).w) (ladN x (vK f) n).a (ladN x (vK f) n).b)) LL ∧
      FV (affV (spA (maskI (ladN x (vK f) n).w) (ladN x (vK f) n).a (ladN x (vK f) n).b)) = (Sap.lst (FV x) (numK f).toNat 256 n).x2 * Sap.inv (Sap.lst (FV x) (numK f).toNat 256 n).z2 := by
    intro n hn
    obtain ⟨⟨ha, hb⟩, hw, hs⟩ := ladN_val hx hf n (by omega)
    rw [hs]
    clear hs hn
    generalize ladN x (vK f) n = s at *
    rcases hw with w | w
    · rw [w, (sp_even (m := 0) rfl ha hb).1, if_pos rfl]
      exact aff_val (pb_pr ha)
    · rw [w, (sp_odd (m := 1) rfl ha hb).1, if_neg (by decide)]
      exact aff_val (pb_pr hb)
  have e : ∀ m a b, spA m (n10 a) (n10 b) = spA m a b := fun m a b => rfl
  unfold ladV
  rw [e]
  exact key 256 rfl
end Go.Proofs.Ythgefjgbkhkmgaa.Ev
