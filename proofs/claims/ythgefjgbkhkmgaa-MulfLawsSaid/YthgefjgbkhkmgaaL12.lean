/-
  The law MulfLaws, walked, and its row.
-/
import Derived.Test.YthgefjgbkhkmgaaAw3
import Derived.Test.YthgefjgbkhkmgaaRow
import Derived.Test.YthgefjgbkhkmgaaHead
namespace Go.Proofs.Ythgefjgbkhkmgaa
open Go Go.ChangeShapes Go.WideShapes Go.ChangeAt Go.RowKit Ev
attribute [local irreducible] evC evBody

theorem l12_g0 (e : Env) : evBody tab orcV2 [(11, .b false)] [] [] 1000 Try.f12 (bodyOf Try.f12) (mkA el3S e 0) [] 0 [] (fun r => r = .bool true) =
    (emit (looseB (a0 e el3S 0)) false ∧ Value.bool true = .bool true) := by kernel_rfl
theorem l12_g1 (e : Env) : evBody tab orcV2 [(11, .b true), (15, .b false)] [] [] 1000 Try.f12 (bodyOf Try.f12) (mkA el3S e 0) [] 0 [] (fun r => r = .bool true) =
    (emit (looseB (a0 e el3S 0)) true ∧ emit (looseB (a0 e el3S 1)) false ∧ Value.bool true = .bool true) := by kernel_rfl
theorem l12_g2 (e : Env) : evBody tab orcV2 [(11, .b true), (15, .b true), (20, .b false)] [] [] 1000 Try.f12 (bodyOf Try.f12) (mkA el3S e 0) [] 0 [] (fun r => r = .bool true) =
    (emit (looseB (a0 e el3S 0)) true ∧ emit (looseB (a0 e el3S 1)) true ∧ emit (looseB (a0 e el3S 2)) false ∧ Value.bool true = .bool true) := by kernel_rfl
def l12_R (a b c : Value) : Prop :=
    emit (looseB a) true ∧
    emit (looseB b) true ∧
    emit (looseB c) true ∧
    emit (!(eqV (keyV (mulV a b)) (keyV (mulV b a)))) false ∧
    emit (!(eqV (keyV (mulV (mulV a b) c)) (keyV (mulV a (mulV b c))))) false ∧
    emit (!(eqV (keyV (mulV a (addV b c))) (keyV (addV (mulV a b) (mulV a c))))) false ∧
    emit (!(eqV (keyV (mulV a (subV b c))) (keyV (subV (mulV a b) (mulV a c))))) false ∧
    emit (eqV (keyV (mulV a one)) (keyV a)) true ∧
    emit (eqV (keyV (mulV a zE)) zeroK) true ∧
    emit (eqV (keyV (sqV a)) (keyV (mulV a a))) true ∧
    emit (eqV (keyV (p3V a b c)) (keyV (p3V c a b))) true ∧
    emit (eqV (keyV (timesV a (.int .u32 2))) (keyV (addV a a))) true ∧
    Value.bool true = .bool true
theorem l12_run (e : Env) : evBody tab orcV2 [(11, .b true), (15, .b true), (20, .b true), (32, .b false), (46, .b false), (62, .b false), (78, .b false), (86, .b true), (93, .b true), (103, .b true), (118, .b true), (128, .b true)] [] [] 1000 Try.f12 (bodyOf Try.f12) (mkA el3S e 0) [] 0 [] (fun r => r = .bool true) =
    l12_R (a0 e el3S 0) (a0 e el3S 1) (a0 e el3S 2) := by kernel_rfl
theorem l12_plain {a b c : Value} (b_a : bnd a LL) (b_b : bnd b LL) (b_c : bnd c LL) (h_a : looseB a = true) (h_b : looseB b = true) (h_c : looseB c = true) : l12_R a b c := by
  have B2 : bnd (mulV a b) LL := bnd_LL (mul_FV b_a b_b).2
  have V2 : FV (mulV a b) = FV a * FV b := (mul_FV b_a b_b).1
  have B3 : bnd (mulV b a) LL := bnd_LL (mul_FV b_b b_a).2
  have V3 : FV (mulV b a) = FV b * FV a := (mul_FV b_b b_a).1
  have B5 : bnd (mulV (mulV a b) c) LL := bnd_LL (mul_FV B2 b_c).2
  have V5 : FV (mulV (mulV a b) c) = FV (mulV a b) * FV c := (mul_FV B2 b_c).1
  have B6 : bnd (mulV b c) LL := bnd_LL (mul_FV b_b b_c).2
  have V6 : FV (mulV b c) = FV b * FV c := (mul_FV b_b b_c).1
  have B7 : bnd (mulV a (mulV b c)) LL := bnd_LL (mul_FV b_a B6).2
  have V7 : FV (mulV a (mulV b c)) = FV a * FV (mulV b c) := (mul_FV b_a B6).1
  have B8 : bnd (addV b c) LL := bnd_add b_b b_c
  have V8 : FV (addV b c) = FV b + FV c := FV_add b_b b_c
  have B9 : bnd (mulV a (addV b c)) LL := bnd_LL (mul_FV b_a B8).2
  have V9 : FV (mulV a (addV b c)) = FV a * FV (addV b c) := (mul_FV b_a B8).1
  have B10 : bnd (mulV a c) LL := bnd_LL (mul_FV b_a b_c).2
  have V10 : FV (mulV a c) = FV a * FV c := (mul_FV b_a b_c).1
  have B11 : bnd (addV (mulV a b) (mulV a c)) LL := bnd_add B2 B10
  have V11 : FV (addV (mulV a b) (mulV a c)) = FV (mulV a b) + FV (mulV a c) := FV_add B2 B10
  have B12 : bnd (subV b c) LL := bnd_sub b_b b_c
  have V12 : FV (subV b c) = FV b - FV c := FV_sub b_b b_c
  have B13 : bnd (mulV a (subV b c)) LL := bnd_LL (mul_FV b_a B12).2
  have V13 : FV (mulV a (subV b c)) = FV a * FV (subV b c) := (mul_FV b_a B12).1
  have B14 : bnd (subV (mulV a b) (mulV a c)) LL := bnd_sub B2 B10
  have V14 : FV (subV (mulV a b) (mulV a c)) = FV (mulV a b) - FV (mulV a c) := FV_sub B2 B10
  have B15 : bnd one LL := one_val.1
  have V15 : FV one = 1 := one_val.2
  have B16 : bnd (mulV a one) LL := bnd_LL (mul_FV b_a B15).2
  have V16 : FV (mulV a one) = FV a * FV one := (mul_FV b_a B15).1
  have B17 : bnd zE LL := bnd_zE
  have V17 : FV zE = 0 := FV_zE
  have B18 : bnd (mulV a zE) LL := bnd_LL (mul_FV b_a B17).2
  have V18 : FV (mulV a zE) = FV a * FV zE := (mul_FV b_a B17).1
  have B19 : bnd (sqV a) LL := bnd_LL (sq_FV b_a).2
  have V19 : FV (sqV a) = FV a * FV a := (sq_FV b_a).1
  have B20 : bnd (mulV a a) LL := bnd_LL (mul_FV b_a b_a).2
  have V20 : FV (mulV a a) = FV a * FV a := (mul_FV b_a b_a).1
  have B21 : bnd (mulV one a) LL := bnd_LL (mul_FV B15 b_a).2
  have V21 : FV (mulV one a) = FV one * FV a := (mul_FV B15 b_a).1
  have B22 : bnd (mulV (mulV one a) b) LL := bnd_LL (mul_FV B21 b_b).2
  have V22 : FV (mulV (mulV one a) b) = FV (mulV one a) * FV b := (mul_FV B21 b_b).1
  have B23 : bnd (mulV (mulV (mulV one a) b) c) LL := bnd_LL (mul_FV B22 b_c).2
  have V23 : FV (mulV (mulV (mulV one a) b) c) = FV (mulV (mulV one a) b) * FV c := (mul_FV B22 b_c).1
  have B24 : bnd (p3V a b c) LL := B23
  have V24 : FV (p3V a b c) = FV (mulV (mulV (mulV one a) b) c) := rfl
  have B25 : bnd (mulV one c) LL := bnd_LL (mul_FV B15 b_c).2
  have V25 : FV (mulV one c) = FV one * FV c := (mul_FV B15 b_c).1
  have B26 : bnd (mulV (mulV one c) a) LL := bnd_LL (mul_FV B25 b_a).2
  have V26 : FV (mulV (mulV one c) a) = FV (mulV one c) * FV a := (mul_FV B25 b_a).1
  have B27 : bnd (mulV (mulV (mulV one c) a) b) LL := bnd_LL (mul_FV B26 b_b).2
  have V27 : FV (mulV (mulV (mulV one c) a) b) = FV (mulV (mulV one c) a) * FV b := (mul_FV B26 b_b).1
  have B28 : bnd (p3V c a b) LL := B27
  have V28 : FV (p3V c a b) = FV (mulV (mulV (mulV one c) a) b) := rfl
  have B29 : bnd (timesV a (.int .u32 2)) LL := bnd_LL (times_FV b_a ⟨by decide, by decide⟩).2
  have V29 : FV (timesV a (.int .u32 2)) = FV a * FI 2 := (times_FV b_a ⟨by decide, by decide⟩).1
  have B30 : bnd (addV a a) LL := bnd_add b_a b_a
  have V30 : FV (addV a a) = FV a + FV a := FV_add b_a b_a
  have E0 : FV (mulV a b) = FV (mulV b a) := by
    simp only [V2, V3]
    grind
  have E1 : FV (mulV (mulV a b) c) = FV (mulV a (mulV b c)) := by
    simp only [V5, V2, V7, V6]
    grind
  have E2 : FV (mulV a (addV b c)) = FV (addV (mulV a b) (mulV a c)) := by
    simp only [V9, V8, V11, V2, V10]
    grind
  have E3 : FV (mulV a (subV b c)) = FV (subV (mulV a b) (mulV a c)) := by
    simp only [V13, V12, V14, V2, V10]
    grind
  have E4 : FV (mulV a one) = FV a := by
    simp only [V16, V15]
    grind
  have E5 : FV (mulV a zE) = 0 := by
    simp only [V18, V17]
    grind
  have E6 : FV (sqV a) = FV (mulV a a) := by
    simp only [V19, V20]
    skip
  have E7 : FV (p3V a b c) = FV (p3V c a b) := by
    simp only [V24, V23, V22, V21, V15, V28, V27, V26, V25]
    grind
  have E8 : FV (timesV a (.int .u32 2)) = FV (addV a a) := by
    simp only [V29, V30]
    rw [FI_2]; grind
  exact ⟨emit_of h_a, emit_of h_b, emit_of h_c, emit_ne (key_eq B2 B3 E0), emit_ne (key_eq B5 B7 E1), emit_ne (key_eq B9 B11 E2), emit_ne (key_eq B13 B14 E3), emit_of (key_eq B16 b_a E4), emit_of (key_zero B18 E5), emit_of (key_eq B19 B20 E6), emit_of (key_eq B24 B28 E7), emit_of (key_eq B29 B30 E8), rfl⟩
theorem l12_ctr (f0 f1 f2 : Nat → Int) (hf0 : isE f0) (hf1 : isE f1) (hf2 : isE f2) : ∀ q, Ctr Try.prog 12 (mkA el3S (mkE [f0, f1, f2] []) 0) q (.bool true) := by
  have e0 : a0 (mkE [f0, f1, f2] []) el3S 0 = vE f0 := rfl
  have e1 : a0 (mkE [f0, f1, f2] []) el3S 1 = vE f1 := rfl
  have e2 : a0 (mkE [f0, f1, f2] []) el3S 2 = vE f2 := rfl
  generalize mkE [f0, f1, f2] [] = e at e0 e1 e2
  cases g0 : looseB (vE f0) with
  | false => exact fo_ctr orcV2_ok Try.func12 (by kernel_rfl) ids_mk (of_eq (l12_g0 e) ⟨emit_of (by rw [e0]; exact g0), rfl⟩)
  | true =>
    cases g1 : looseB (vE f1) with
    | false => exact fo_ctr orcV2_ok Try.func12 (by kernel_rfl) ids_mk (of_eq (l12_g1 e) ⟨emit_of (by rw [e0]; exact g0), emit_of (by rw [e1]; exact g1), rfl⟩)
    | true =>
      cases g2 : looseB (vE f2) with
      | false => exact fo_ctr orcV2_ok Try.func12 (by kernel_rfl) ids_mk (of_eq (l12_g2 e) ⟨emit_of (by rw [e0]; exact g0), emit_of (by rw [e1]; exact g1), emit_of (by rw [e2]; exact g2), rfl⟩)
      | true =>
        have hev := l12_run e
        rw [e0, e1, e2] at hev
        exact fo_ctr orcV2_ok Try.func12 (by kernel_rfl) ids_mk (of_eq hev (l12_plain (loose_of hf0 g0) (loose_of hf1 g1) (loose_of hf2 g2) g0 g1 g2))
theorem isE_of {f : Nat → Int} (h : ∀ j, j < 5 → (Lit.int .u64 (f j)).wf = true) : isE f := fun j hj => by
  obtain ⟨h1, h2⟩ := range_of (h j hj)
  have e1 : IntKind.u64.min = 0 := by decide
  have e2 : IntKind.u64.max = 18446744073709551615 := by decide
  rw [e1] at h1; rw [e2] at h2
  exact ⟨h1, by omega⟩

set_option maxRecDepth 100000 in
theorem mulfLaws_lifted (os : Os) (started : os.Started) (H : Type) (enc : TypeId × Value → H) :
    ReturnsInHanded {} Try.checked os 12 .any (Rows.mulfLawsSpec.pre6 enc Try.prog Try.f12 Rows.mulfLawsRow.domain false) (Rows.mulfLawsSpec.post enc Try.prog Try.f12 false true false false) := by
  refine returnsInHanded_of_change (C := Try.checked) own started (by kernel_rfl) Try.func12
    (ChangeSpec.witness6 (enc := enc) (C := Try.checked) false ⟨#[], #[arrOf .u64 5 (fun _ => 0), arrOf .u64 5 (fun _ => 0), arrOf .u64 5 (fun _ => 0)], []⟩ 8 (by kernel_rfl) (by kernel_rfl) (by kernel_rfl) (by kernel_rfl)) ?_
  intro W base args ds gs before hval0 hW hcnd _
  have hval : ∀ (j : Nat) t v, Try.f12.params[j]? = some t → args[j]? = some v → Value.okWide Try.prog W .any base t v := hval0
  have hW' := hW
  obtain ⟨p, q, hA0, hV, rfl, hfz, hnd⟩ := hW
  have hA : DataW.TrodAll enc Try.prog W 0 (fun _ => true) true Try.f12.params.toList args.toList ds p := hA0
  rw [Try.params12] at hA hval
  obtain ⟨v0, v1, v2, d0, d1, d2, p0, p1, p2, rfl, rfl, rfl, h0, h1, h2⟩ := trodAll_three hA
  obtain ⟨rfl, rfl⟩ := trodVars_none hV
  obtain ⟨x0, rfl, w0⟩ := open_arr Try.underlying36 Try.underlying34 (by kernel_rfl) (by kernel_rfl) (hval 0 36 v0 rfl rfl) h0
  obtain ⟨x1, rfl, w1⟩ := open_arr Try.underlying36 Try.underlying34 (by kernel_rfl) (by kernel_rfl) (hval 1 36 v1 rfl rfl) h1
  obtain ⟨x2, rfl, w2⟩ := open_arr Try.underlying36 Try.underlying34 (by kernel_rfl) (by kernel_rfl) (hval 2 36 v2 rfl rfl) h2
  refine (plain_calls (l12_ctr x0 x1 x2 (isE_of w0) (isE_of w1) (isE_of w2)) W).mono fun e W' ⟨he, hb⟩ => ?_
  exact ⟨_, he, law_post hW' hb rfl (by kernel_rfl) (reads_of (by kernel_rfl)) ⟨rfl, rfl, rfl⟩⟩

theorem mulfLaws_closed : joinedFacts Try.prog 12 Try.f12 Rows.mulfLawsSpec Rows.mulfLawsRow = true := by
  refine (joinedFacts.eq_1 ..).trans ?_
  rw [enters_ok, no_finals, make_is]
  kernel_rfl

theorem mulfLaws_holds : Rows.MulfLawsSaid :=
  OpenClaim.holds_of_wide 12 Try.f12 rfl rfl rfl rfl rfl rfl rfl ⟨rfl, rfl, rfl, rfl, rfl⟩ rfl rfl rfl rfl rfl (by kernel_rfl) Try.func12 mulfLaws_closed
    (of_decide_eq_true (by kernel_rfl)) (by unfold Func.isWrapper; rw [if_neg (by decide +kernel)]; exact ⟨rfl, rfl⟩)
    (fun os started H enc _ => mulfLaws_lifted os started H enc)

end Go.Proofs.Ythgefjgbkhkmgaa
