/-
  The law InvMakes, walked, and its row.
-/
import Derived.Test.YthgefjgbkhkmgaaAw4
import Derived.Test.YthgefjgbkhkmgaaRef3
import Derived.Test.YthgefjgbkhkmgaaIsW
import Derived.Test.YthgefjgbkhkmgaaRow
import Derived.Test.YthgefjgbkhkmgaaHead
namespace Go.Proofs.Ythgefjgbkhkmgaa
open Go Go.ChangeShapes Go.WideShapes Go.ChangeAt Go.RowKit Ev
attribute [local irreducible] evC evBody

open Sap (F P toF pw)
/-- powers and inverses by whatever function: nothing of them is looked at -/
noncomputable def orcG18 (G : Value → Nat → Int) (W : Value → Value → Nat → Int) : Orc :=
  oadd (oadd (oadd (oadd (oadd (oadd (oadd orcK1 44 (foOf elS limbsF)) 67 (foOf pqS pqF)) 68 (foOf numS1 invnF)) 40 (foOf isS isF)) 64 (foOf elS fun a => (true, lims (G (getD a 0))))) 62 (foOf powFS fun a => (true, lims (W (getD a 0) (getD a 1))))) 42 (foOf smallS smallnF)
def okE1 (b : Bool) : Prop := b = true
def mkS : List Sh := [.arr .u64 5, .arr .u64 5, .arr .u8 32, .int .i64]
def zN : Value := vN (fun _ => 0)
/-- what is asked of the two that are swapped -/
def swE (b : Int) (x y : Value) (p : Prop) : Prop :=
  emit (!(eqV (swA (maskI b) x y) x)) false ∧ emit (!(eqV (swB (maskI b) x y) y)) false ∧ emit (b.tmod 2 != 0) false ∧ p
def swO (b : Int) (x y : Value) (p : Prop) : Prop :=
  emit (b.tmod 2 != 0) true ∧ emit (!(eqV (swA (maskI b) x y) y)) false ∧ emit (!(eqV (swB (maskI b) x y) x)) false ∧ p
noncomputable def l18_T (G : Value → Nat → Int) (W : Value → Value → Nat → Int) (a b k : Value) : Prop :=
  okE1 (ifP (inU a)) ∧ okE1 (ifP (inU b)) ∧
  okE1 (ifP (can (vNum (FV a)) ∧ isK (dOf k))) ∧ okE1 (ifP (isP (lims (W a k)) (vNum (pw (NF (vNum (FV a))) (numK (dOf k)).toNat)))) ∧
  okE (ifP (can (vNum (FV a)))) ∧ okE (ifP (isP (lims (G a)) (vNum (Sap.inv (NF (vNum (FV a))))))) ∧
  emit (sameB (keyV a) (keyV b) == eqV (vNum (FV a)) (vNum (FV b))) true ∧
  emit (sameB (keyV a) (keyV a)) true ∧
  emit (sameB (keyV a) zeroK == eqV (vNum (FV a)) zN) true ∧ Value.bool true = .bool true

theorem l18_ea (G : Value → Nat → Int) (W : Value → Value → Nat → Int) (e : Env) : evBody tab (orcG18 G W) [(24, .b true), (28, .b false), (32, .b false), (38, .b false), (51, .b false)] [] [] 1000 Try.f18 (bodyOf Try.f18) (mkA mkS e 0) [] 0 [] (fun r => r = .bool true) =
    (emit ((e.i 3 0).tmod 2 == 0) true ∧ swE (e.i 3 0) (a0 e mkS 0) (a0 e mkS 1) (emit (looseB (a0 e mkS 0)) false ∧ Value.bool true = .bool true)) := by kernel_rfl
theorem l18_eb (G : Value → Nat → Int) (W : Value → Value → Nat → Int) (e : Env) : evBody tab (orcG18 G W) [(24, .b true), (28, .b false), (32, .b false), (38, .b false), (51, .b true), (55, .b false)] [] [] 1000 Try.f18 (bodyOf Try.f18) (mkA mkS e 0) [] 0 [] (fun r => r = .bool true) =
    (emit ((e.i 3 0).tmod 2 == 0) true ∧ swE (e.i 3 0) (a0 e mkS 0) (a0 e mkS 1) (emit (looseB (a0 e mkS 0)) true ∧ emit (looseB (a0 e mkS 1)) false ∧ Value.bool true = .bool true)) := by kernel_rfl
theorem l18_er (G : Value → Nat → Int) (W : Value → Value → Nat → Int) (e : Env) : evBody tab (orcG18 G W) [(24, .b true), (28, .b false), (32, .b false), (38, .b false), (51, .b true), (55, .b true), (59, .ok), (61, .ok), (67, .ok), (68, .ok), (73, .ok), (74, .ok), (83, .b true), (88, .b true), (96, .b true)] [] [] 1000 Try.f18 (bodyOf Try.f18) (mkA mkS e 0) [] 0 [] (fun r => r = .bool true) =
    (emit ((e.i 3 0).tmod 2 == 0) true ∧ swE (e.i 3 0) (a0 e mkS 0) (a0 e mkS 1) (emit (looseB (a0 e mkS 0)) true ∧ emit (looseB (a0 e mkS 1)) true ∧ l18_T G W (a0 e mkS 0) (a0 e mkS 1) (a0 e mkS 2))) := by kernel_rfl
theorem l18_oa (G : Value → Nat → Int) (W : Value → Value → Nat → Int) (e : Env) : evBody tab (orcG18 G W) [(24, .b false), (38, .b true), (42, .b false), (46, .b false), (51, .b false)] [] [] 1000 Try.f18 (bodyOf Try.f18) (mkA mkS e 0) [] 0 [] (fun r => r = .bool true) =
    (emit ((e.i 3 0).tmod 2 == 0) false ∧ swO (e.i 3 0) (a0 e mkS 0) (a0 e mkS 1) (emit (looseB (a0 e mkS 0)) false ∧ Value.bool true = .bool true)) := by kernel_rfl
theorem l18_ob (G : Value → Nat → Int) (W : Value → Value → Nat → Int) (e : Env) : evBody tab (orcG18 G W) [(24, .b false), (38, .b true), (42, .b false), (46, .b false), (51, .b true), (55, .b false)] [] [] 1000 Try.f18 (bodyOf Try.f18) (mkA mkS e 0) [] 0 [] (fun r => r = .bool true) =
    (emit ((e.i 3 0).tmod 2 == 0) false ∧ swO (e.i 3 0) (a0 e mkS 0) (a0 e mkS 1) (emit (looseB (a0 e mkS 0)) true ∧ emit (looseB (a0 e mkS 1)) false ∧ Value.bool true = .bool true)) := by kernel_rfl
theorem l18_or (G : Value → Nat → Int) (W : Value → Value → Nat → Int) (e : Env) : evBody tab (orcG18 G W) [(24, .b false), (38, .b true), (42, .b false), (46, .b false), (51, .b true), (55, .b true), (59, .ok), (61, .ok), (67, .ok), (68, .ok), (73, .ok), (74, .ok), (83, .b true), (88, .b true), (96, .b true)] [] [] 1000 Try.f18 (bodyOf Try.f18) (mkA mkS e 0) [] 0 [] (fun r => r = .bool true) =
    (emit ((e.i 3 0).tmod 2 == 0) false ∧ swO (e.i 3 0) (a0 e mkS 0) (a0 e mkS 1) (emit (looseB (a0 e mkS 0)) true ∧ emit (looseB (a0 e mkS 1)) true ∧ l18_T G W (a0 e mkS 0) (a0 e mkS 1) (a0 e mkS 2))) := by kernel_rfl
def gI (x : Value) : Nat → Int := limF (invV x)
def wI (x k : Value) : Nat → Int := limF (powV x k)
theorem orcG18_ok : OrcOk Try.prog (orcG18 gI wI) := by
  have h1 : (fun a : List Value => (true, lims (gI (getD a 0)))) = invF := rfl
  have h2 : (fun a : List Value => (true, lims (wI (getD a 0) (getD a 1)))) = powF := rfl
  unfold orcG18
  rw [h1, h2]
  exact oadd_ok (oadd_ok (oadd_ok (oadd_ok (oadd_ok (oadd_ok (oadd_ok orcK1_ok limbs_ok) pqr_ok) invn_ok) is_ok) inv_ok) pow_ok) smalln_ok
theorem okE1_of {p : Prop} (h : p) : okE1 (ifP p) := ifP_of h
theorem emit_bq {a b : Bool} (h : a = b) : emit (a == b) true := by subst h; cases a <;> rfl
/-! ## What an inverse's limbs are below -/
theorem inv_TT {a : Value} (ha : bnd a LL) : bnd (invV a) TT := by
  have h1 : isPw (FV a) a 1 := ⟨ha, by rw [Sap.pw_one]⟩
  have h2 : isPw (FV a) (i2 a) 2 := isPw_sq h1 rfl
  have h9 : isPw (FV a) (i9 a) 9 := isPw_mul (isPw_rN h2 2) h1 rfl
  have h11 : isPw (FV a) (i11 a) 11 := isPw_mul h9 h2 rfl
  have g5 : isPw (FV a) (b5 a) 31 := isPw_mul (isPw_sq h11 rfl) h9 rfl
  have g10 : isPw (FV a) (b10 a) 1023 := isPw_mul (isPw_rN g5 5) g5 (by decide)
  have g20 : isPw (FV a) (b20 a) 1048575 := isPw_mul (isPw_rN g10 10) g10 (by decide)
  have g40 : isPw (FV a) (b40 a) 1099511627775 := isPw_mul (isPw_rN g20 20) g20 (by decide)
  have g50 : isPw (FV a) (b50 a) 1125899906842623 := isPw_mul (isPw_rN g40 10) g10 (by decide)
  have g100 : isPw (FV a) (b100 a) 1267650600228229401496703205375 := isPw_mul (isPw_rN g50 50) g50 (by decide)
  have g200 : isPw (FV a) (b200 a) 1606938044258990275541962092341162602522202993782792835301375 := isPw_mul (isPw_rN g100 100) g100 (by decide)
  have g250 : isPw (FV a) (b250 a) 1809251394333065553493296640760748560207343510400633813116524750123642650623 := isPw_mul (isPw_rN g200 50) g50 (by decide)
  exact (mul_FV (isPw_rN g250 5).1 h11.1).2
theorem powS_TT {a o : Value} (ha : bnd a LL) (ho : bnd o LL) (c : Int) : bnd (powS a o c) TT := by
  have h1 := (sq_FV ho).2
  have h2 := (mul_FV (bnd_LL h1) ha).2
  unfold powS
  rcases (by omega : c % 2 = 0 ∨ c % 2 = 1) with h | h
  · rw [swB_even h (LL_U64 (bnd_LL h1))]; exact bnd_nrm h1
  · rw [swB_odd h (LL_U64 (bnd_LL h2))]; exact bnd_nrm h2
theorem pow_TT {a : Value} (ha : bnd a LL) {f : Nat → Int} (hf : isK f) : bnd (powV a (vK f)) TT := by
  have key : ∀ n, n = 255 → bnd (powN a (vK f) (n + 1)) TT := fun n hn => powS_TT ha (powN_val ha hf n (by omega)).1 _
  exact key 255 rfl
theorem eqL_dn {k k' : IntKind} {f g : Nat → Int} : ∀ {n i : Nat}, eqL (cellsOf k f n i) (cellsOf k' g n i) = true → dn f i n = dn g i n := by
  intro n
  induction n with
  | zero => intros; rfl
  | succ n ih =>
    intro i h
    simp only [cellsOf, eqL, Bool.and_eq_true, beq_iff_eq] at h
    simp only [dn]
    rw [h.1, ih h.2]
theorem eqV_vNum (a b : F) : eqV (vNum a) (vNum b) = decide (a = b) := by
  by_cases h : a = b
  · subst h; rw [eqV_refl, decide_eq_true rfl]
  · rw [decide_eq_false h]
    cases hc : eqV (vNum a) (vNum b) with
    | false => rfl
    | true =>
      exfalso
      apply h
      have h0 : dn (numD a.val) 0 16 = dn (numD b.val) 0 16 := eqL_dn hc
      have h1 : nI (vNum a) = nI (vNum b) := by
        unfold vNum
        rw [nI_vN, nI_vN, h0]
      rw [← NF_vNum a, ← NF_vNum b]
      unfold NF
      rw [h1]
theorem zN_is : zN = vNum 0 := by
  show vN (fun _ => 0) = vN (numD 0)
  congr 1
  funext j
  show (0 : Int) = ((0 / 65536 ^ j % 65536 : Nat) : Int)
  rw [Nat.zero_div]; rfl
theorem same_dec {x y : Value} (hx : bnd x LL) (hy : bnd y LL) : sameB (keyV x) (keyV y) = decide (FV x = FV y) := by
  rw [key_FV hx, key_FV hy, keyN_eq, keyN_eq, sameB_eq (isK_dig _) (isK_dig _), ← keyN_eq, ← keyN_eq, eqV_keyN]
theorem l18_all {a b : Value} {f : Nat → Int} (b_a : bnd a LL) (b_b : bnd b LL) (hf : isK f) : l18_T gI wI a b (vK f) := by
  obtain ⟨p1, p2⟩ := pow_val b_a hf
  obtain ⟨i1, i2⟩ := inv_val b_a
  refine ⟨okE1_of (inU_of b_a), okE1_of (inU_of b_b), okE1_of ⟨can_vNum _, isK_dOf hf⟩, okE1_of ⟨bnd_nrm (pow_TT b_a hf), can_vNum _, ?_⟩, okE_of (can_vNum _), okE_of ⟨bnd_nrm (inv_TT b_a), can_vNum _, ?_⟩, emit_bq ?_, emit_of (same_eq b_a b_a rfl), emit_bq ?_, rfl⟩
  · show FV (nrm (powV a (vK f))) = _
    rw [NF_vNum, NF_vNum, FV_nrm, p2]
    have : numK (dOf (vK f)) = numK f := hn_congr fun j _ hj => lim_vK (by omega)
    rw [this]
  · show FV (nrm (invV a)) = _
    rw [NF_vNum, NF_vNum, FV_nrm, i2]
  · rw [same_dec b_a b_b, eqV_vNum]
  · rw [same_zero' b_a, zN_is, eqV_vNum]
theorem nrm_vE (f : Nat → Int) : nrm (vE f) = vE f := rfl
theorem tmod_eq0 {b : Int} : (b.tmod 2 == 0) = (b % 2 == 0) := by
  rcases (by omega : b % 2 = 0 ∨ b % 2 = 1) with h | h
  · have : b.tmod 2 = 0 := Int.tmod_eq_zero_of_dvd (Int.dvd_of_emod_eq_zero h)
    rw [this, h]
  · have h' := tmod_odd h
    rw [h]
    rw [bne_iff_ne] at h'
    rw [beq_eq_false_iff_ne.2 h']; rfl
theorem l18_ctr (f g k : Nat → Int) (b : Int) (hf : isE f) (hg : isE g) (hk : isK k) : ∀ q, Ctr Try.prog 18 (mkA mkS (mkE [f, g, k, fun _ => b] []) 0) q (.bool true) := by
  have e0 : a0 (mkE [f, g, k, fun _ => b] []) mkS 0 = vE f := rfl
  have e1 : a0 (mkE [f, g, k, fun _ => b] []) mkS 1 = vE g := rfl
  have e2 : a0 (mkE [f, g, k, fun _ => b] []) mkS 2 = vK k := rfl
  have eb : (mkE [f, g, k, fun _ => b] []).i 3 0 = b := rfl
  generalize mkE [f, g, k, fun _ => b] [] = e at e0 e1 e2 eb
  have uf := u64_vE hf
  have ug := u64_vE hg
  rcases (by omega : b % 2 = 0 ∨ b % 2 = 1) with hb | hb
  · have sw : ∀ p : Prop, p → (emit (b.tmod 2 == 0) true ∧ swE b (vE f) (vE g) p) := fun p hp => by
      refine ⟨emit_of (by rw [tmod_eq0, hb]; rfl), ?_⟩
      unfold swE
      rw [swA_even hb uf, swB_even hb ug, nrm_vE, nrm_vE]
      exact ⟨emit_ne (eqV_refl _), emit_ne (eqV_refl _), emit_of (tmod_even hb), hp⟩
    cases g0 : looseB (vE f) with
    | false =>
      have hev := l18_ea gI wI e
      rw [e0, e1, eb] at hev
      exact fo_ctr orcG18_ok Try.func18 (by kernel_rfl) ids_mk (of_eq hev (sw _ ⟨emit_of g0, rfl⟩))
    | true =>
      cases g1 : looseB (vE g) with
      | false =>
        have hev := l18_eb gI wI e
        rw [e0, e1, eb] at hev
        exact fo_ctr orcG18_ok Try.func18 (by kernel_rfl) ids_mk (of_eq hev (sw _ ⟨emit_of g0, emit_of g1, rfl⟩))
      | true =>
        have hev := l18_er gI wI e
        rw [e0, e1, e2, eb] at hev
        exact fo_ctr orcG18_ok Try.func18 (by kernel_rfl) ids_mk (of_eq hev (sw _ ⟨emit_of g0, emit_of g1, l18_all (loose_of hf g0) (loose_of hg g1) hk⟩))
  · have sw : ∀ p : Prop, p → (emit (b.tmod 2 == 0) false ∧ swO b (vE f) (vE g) p) := fun p hp => by
      refine ⟨emit_of (by rw [tmod_eq0, hb]; rfl), ?_⟩
      unfold swO
      rw [swA_odd hb ug, swB_odd hb uf, nrm_vE, nrm_vE]
      exact ⟨emit_of (tmod_odd hb), emit_ne (eqV_refl _), emit_ne (eqV_refl _), hp⟩
    cases g0 : looseB (vE f) with
    | false =>
      have hev := l18_oa gI wI e
      rw [e0, e1, eb] at hev
      exact fo_ctr orcG18_ok Try.func18 (by kernel_rfl) ids_mk (of_eq hev (sw _ ⟨emit_of g0, rfl⟩))
    | true =>
      cases g1 : looseB (vE g) with
      | false =>
        have hev := l18_ob gI wI e
        rw [e0, e1, eb] at hev
        exact fo_ctr orcG18_ok Try.func18 (by kernel_rfl) ids_mk (of_eq hev (sw _ ⟨emit_of g0, emit_of g1, rfl⟩))
      | true =>
        have hev := l18_or gI wI e
        rw [e0, e1, e2, eb] at hev
        exact fo_ctr orcG18_ok Try.func18 (by kernel_rfl) ids_mk (of_eq hev (sw _ ⟨emit_of g0, emit_of g1, l18_all (loose_of hf g0) (loose_of hg g1) hk⟩))

theorem isE_of {f : Nat → Int} (h : ∀ j, j < 5 → (Lit.int .u64 (f j)).wf = true) : isE f := fun j hj => by
  obtain ⟨h1, h2⟩ := range_of (h j hj)
  have e1 : IntKind.u64.min = 0 := by decide
  have e2 : IntKind.u64.max = 18446744073709551615 := by decide
  rw [e1] at h1; rw [e2] at h2
  exact ⟨h1, by omega⟩
theorem u32_of {n : Int} (h : (Lit.int .u32 n).wf = true) : 0 ≤ n ∧ n < 4294967296 := by
  obtain ⟨h1, h2⟩ := range_of h
  have e1 : IntKind.u32.min = 0 := by decide
  have e2 : IntKind.u32.max = 4294967295 := by decide
  rw [e1] at h1; rw [e2] at h2
  exact ⟨h1, by omega⟩
theorem isK_of {f : Nat → Int} (h : ∀ j, j < 32 → (Lit.int .u8 (f j)).wf = true) : isK f := fun j hj => isB_of (h j hj)

set_option maxRecDepth 100000 in
theorem invMakes_lifted (os : Os) (started : os.Started) (H : Type) (enc : TypeId × Value → H) :
    ReturnsInHanded {} Try.checked os 18 .any (Rows.invMakesSpec.pre6 enc Try.prog Try.f18 Rows.invMakesRow.domain false) (Rows.invMakesSpec.post enc Try.prog Try.f18 false true false false) := by
  refine returnsInHanded_of_change (C := Try.checked) own started (by kernel_rfl) Try.func18
    (ChangeSpec.witness6 (enc := enc) (C := Try.checked) false ⟨#[], #[arrOf .u64 5 (fun _ => 0), arrOf .u64 5 (fun _ => 0), arrOf .u8 32 (fun _ => 0), .int .i64 0], []⟩ 8 (by kernel_rfl) (by kernel_rfl) (by kernel_rfl) (by kernel_rfl)) ?_
  intro W base args ds gs before hval0 hW hcnd _
  have hval : ∀ (j : Nat) t v, Try.f18.params[j]? = some t → args[j]? = some v → Value.okWide Try.prog W .any base t v := hval0
  have hW' := hW
  obtain ⟨p, q, hA0, hV, rfl, hfz, hnd⟩ := hW
  have hA : DataW.TrodAll enc Try.prog W 0 (fun _ => true) true Try.f18.params.toList args.toList ds p := hA0
  rw [Try.params18] at hA hval
  obtain ⟨v0, v1, v2, v3, d0, d1, d2, d3, p0, p1, p2, p3, rfl, rfl, rfl, h0, h1, h2, h3⟩ := trodAll_four hA
  obtain ⟨rfl, rfl⟩ := trodVars_none hV
  obtain ⟨x0, rfl, w0⟩ := open_arr Try.underlying36 Try.underlying34 (by kernel_rfl) (by kernel_rfl) (hval 0 36 v0 rfl rfl) h0
  obtain ⟨x1, rfl, w1⟩ := open_arr Try.underlying36 Try.underlying34 (by kernel_rfl) (by kernel_rfl) (hval 1 36 v1 rfl rfl) h1
  obtain ⟨x2, rfl, w2⟩ := open_arr Try.underlying23 Try.underlying5 (by kernel_rfl) (by kernel_rfl) (hval 2 23 v2 rfl rfl) h2
  obtain ⟨x3, rfl, rfl, rfl, w3⟩ := open_int Try.underlying3 (hval 3 3 v3 rfl rfl) h3
  refine (plain_calls (l18_ctr x0 x1 x2 x3 (isE_of w0) (isE_of w1) (isK_of w2)) W).mono fun e W' ⟨he, hb⟩ => ?_
  exact ⟨_, he, law_post hW' hb rfl (by kernel_rfl) (reads_of (by kernel_rfl)) ⟨rfl, rfl, rfl⟩⟩

theorem invMakes_closed : joinedFacts Try.prog 18 Try.f18 Rows.invMakesSpec Rows.invMakesRow = true := by
  refine (joinedFacts.eq_1 ..).trans ?_
  rw [enters_ok, no_finals, make_is]
  kernel_rfl

theorem invMakes_holds : Rows.InvMakesSaid :=
  OpenClaim.holds_of_wide 18 Try.f18 rfl rfl rfl rfl rfl rfl rfl ⟨rfl, rfl, rfl, rfl, rfl⟩ rfl rfl rfl rfl rfl (by kernel_rfl) Try.func18 invMakes_closed
    (of_decide_eq_true (by kernel_rfl)) (by unfold Func.isWrapper; rw [if_neg (by decide +kernel)]; exact ⟨rfl, rfl⟩)
    (fun os started H enc _ => invMakes_lifted os started H enc)

end Go.Proofs.Ythgefjgbkhkmgaa
