/-
  The law MulfFactors, walked, and its row.
-/
import Derived.Test.YthgefjgbkhkmgaaAw3
import Derived.Test.YthgefjgbkhkmgaaRow
import Derived.Test.YthgefjgbkhkmgaaHead
namespace Go.Proofs.Ythgefjgbkhkmgaa
open Go Go.ChangeShapes Go.WideShapes Go.ChangeAt Go.RowKit Ev
attribute [local irreducible] evC evBody

theorem l13_g0 (e : Env) : evBody tab orcV2 [(13, .b false)] [] [] 1000 Try.f13 (bodyOf Try.f13) (mkA elS2 e 0) [] 0 [] (fun r => r = .bool true) =
    (emit (looseB (a0 e elS2 0)) false ∧ Value.bool true = .bool true) := by kernel_rfl
theorem l13_g1 (e : Env) : evBody tab orcV2 [(13, .b true), (17, .b false)] [] [] 1000 Try.f13 (bodyOf Try.f13) (mkA elS2 e 0) [] 0 [] (fun r => r = .bool true) =
    (emit (looseB (a0 e elS2 0)) true ∧ emit (looseB (a0 e elS2 1)) false ∧ Value.bool true = .bool true) := by kernel_rfl
def l13_R (a b : Value) : Prop :=
    emit (looseB a) true ∧
    emit (looseB b) true ∧
    emit (eqV (keyV (sqV (addV a b))) (keyV (s3V (sqV a) (sqV b) (timesV (mulV a b) (.int .u32 2))))) true ∧
    emit (eqV (keyV (mulV (addV a b) (subV a b))) (keyV (subV (sqV a) (sqV b)))) true ∧
    emit (eqV (keyV (subV (sqV (addV a b)) (sqV (subV a b)))) (keyV (timesV (mulV a b) (.int .u32 4)))) true ∧
    Value.bool true = .bool true
theorem l13_run (e : Env) : evBody tab orcV2 [(13, .b true), (17, .b true), (43, .b true), (53, .b true), (67, .b true)] [] [] 1000 Try.f13 (bodyOf Try.f13) (mkA elS2 e 0) [] 0 [] (fun r => r = .bool true) =
    l13_R (a0 e elS2 0) (a0 e elS2 1) := by kernel_rfl
theorem l13_plain {a b : Value} (b_a : bnd a LL) (b_b : bnd b LL) (h_a : looseB a = true) (h_b : looseB b = true) : l13_R a b := by
  have B2 : bnd (addV a b) LL := bnd_add b_a b_b
  have V2 : FV (addV a b) = FV a + FV b := FV_add b_a b_b
  have B3 : bnd (sqV (addV a b)) LL := bnd_LL (sq_FV B2).2
  have V3 : FV (sqV (addV a b)) = FV (addV a b) * FV (addV a b) := (sq_FV B2).1
  have B4 : bnd zE LL := bnd_zE
  have V4 : FV zE = 0 := FV_zE
  have B5 : bnd (sqV a) LL := bnd_LL (sq_FV b_a).2
  have V5 : FV (sqV a) = FV a * FV a := (sq_FV b_a).1
  have B6 : bnd (addV zE (sqV a)) LL := bnd_add B4 B5
  have V6 : FV (addV zE (sqV a)) = FV zE + FV (sqV a) := FV_add B4 B5
  have B7 : bnd (sqV b) LL := bnd_LL (sq_FV b_b).2
  have V7 : FV (sqV b) = FV b * FV b := (sq_FV b_b).1
  have B8 : bnd (addV (addV zE (sqV a)) (sqV b)) LL := bnd_add B6 B7
  have V8 : FV (addV (addV zE (sqV a)) (sqV b)) = FV (addV zE (sqV a)) + FV (sqV b) := FV_add B6 B7
  have B9 : bnd (mulV a b) LL := bnd_LL (mul_FV b_a b_b).2
  have V9 : FV (mulV a b) = FV a * FV b := (mul_FV b_a b_b).1
  have B10 : bnd (timesV (mulV a b) (.int .u32 2)) LL := bnd_LL (times_FV B9 ⟨by decide, by decide⟩).2
  have V10 : FV (timesV (mulV a b) (.int .u32 2)) = FV (mulV a b) * FI 2 := (times_FV B9 ⟨by decide, by decide⟩).1
  have B11 : bnd (addV (addV (addV zE (sqV a)) (sqV b)) (timesV (mulV a b) (.int .u32 2))) LL := bnd_add B8 B10
  have V11 : FV (addV (addV (addV zE (sqV a)) (sqV b)) (timesV (mulV a b) (.int .u32 2))) = FV (addV (addV zE (sqV a)) (sqV b)) + FV (timesV (mulV a b) (.int .u32 2)) := FV_add B8 B10
  have B12 : bnd (s3V (sqV a) (sqV b) (timesV (mulV a b) (.int .u32 2))) LL := B11
  have V12 : FV (s3V (sqV a) (sqV b) (timesV (mulV a b) (.int .u32 2))) = FV (addV (addV (addV zE (sqV a)) (sqV b)) (timesV (mulV a b) (.int .u32 2))) := rfl
  have B13 : bnd (subV a b) LL := bnd_sub b_a b_b
  have V13 : FV (subV a b) = FV a - FV b := FV_sub b_a b_b
  have B14 : bnd (mulV (addV a b) (subV a b)) LL := bnd_LL (mul_FV B2 B13).2
  have V14 : FV (mulV (addV a b) (subV a b)) = FV (addV a b) * FV (subV a b) := (mul_FV B2 B13).1
  have B15 : bnd (subV (sqV a) (sqV b)) LL := bnd_sub B5 B7
  have V15 : FV (subV (sqV a) (sqV b)) = FV (sqV a) - FV (sqV b) := FV_sub B5 B7
  have B16 : bnd (sqV (subV a b)) LL := bnd_LL (sq_FV B13).2
  have V16 : FV (sqV (subV a b)) = FV (subV a b) * FV (subV a b) := (sq_FV B13).1
  have B17 : bnd (subV (sqV (addV a b)) (sqV (subV a b))) LL := bnd_sub B3 B16
  have V17 : FV (subV (sqV (addV a b)) (sqV (subV a b))) = FV (sqV (addV a b)) - FV (sqV (subV a b)) := FV_sub B3 B16
  have B18 : bnd (timesV (mulV a b) (.int .u32 4)) LL := bnd_LL (times_FV B9 ⟨by decide, by decide⟩).2
  have V18 : FV (timesV (mulV a b) (.int .u32 4)) = FV (mulV a b) * FI 4 := (times_FV B9 ⟨by decide, by decide⟩).1
  have E0 : FV (sqV (addV a b)) = FV (s3V (sqV a) (sqV b) (timesV (mulV a b) (.int .u32 2))) := by
    simp only [V3, V2, V12, V11, V8, V6, V4, V5, V7, V10, V9]
    rw [FI_2]; grind
  have E1 : FV (mulV (addV a b) (subV a b)) = FV (subV (sqV a) (sqV b)) := by
    simp only [V14, V2, V13, V15, V5, V7]
    grind
  have E2 : FV (subV (sqV (addV a b)) (sqV (subV a b))) = FV (timesV (mulV a b) (.int .u32 4)) := by
    simp only [V17, V3, V2, V16, V13, V18, V9]
    rw [FI_4]; grind
  exact ⟨emit_of h_a, emit_of h_b, emit_of (key_eq B3 B12 E0), emit_of (key_eq B14 B15 E1), emit_of (key_eq B17 B18 E2), rfl⟩
theorem l13_ctr (f0 f1 : Nat → Int) (hf0 : isE f0) (hf1 : isE f1) : ∀ q, Ctr Try.prog 13 (mkA elS2 (mkE [f0, f1] []) 0) q (.bool true) := by
  have e0 : a0 (mkE [f0, f1] []) elS2 0 = vE f0 := rfl
  have e1 : a0 (mkE [f0, f1] []) elS2 1 = vE f1 := rfl
  generalize mkE [f0, f1] [] = e at e0 e1
  cases g0 : looseB (vE f0) with
  | false => exact fo_ctr orcV2_ok Try.func13 (by kernel_rfl) ids_mk (of_eq (l13_g0 e) ⟨emit_of (by rw [e0]; exact g0), rfl⟩)
  | true =>
    cases g1 : looseB (vE f1) with
    | false => exact fo_ctr orcV2_ok Try.func13 (by kernel_rfl) ids_mk (of_eq (l13_g1 e) ⟨emit_of (by rw [e0]; exact g0), emit_of (by rw [e1]; exact g1), rfl⟩)
    | true =>
      have hev := l13_run e
      rw [e0, e1] at hev
      exact fo_ctr orcV2_ok Try.func13 (by kernel_rfl) ids_mk (of_eq hev (l13_plain (loose_of hf0 g0) (loose_of hf1 g1) g0 g1))
theorem isE_of {f : Nat → Int} (h : ∀ j, j < 5 → (Lit.int .u64 (f j)).wf = true) : isE f := fun j hj => by
  obtain ⟨h1, h2⟩ := range_of (h j hj)
  have e1 : IntKind.u64.min = 0 := by decide
  have e2 : IntKind.u64.max = 18446744073709551615 := by decide
  rw [e1] at h1; rw [e2] at h2
  exact ⟨h1, by omega⟩

set_option maxRecDepth 100000 in
theorem mulfFactors_lifted (os : Os) (started : os.Started) (H : Type) (enc : TypeId × Value → H) :
    ReturnsInHanded {} Try.checked os 13 .any (Rows.mulfFactorsSpec.pre6 enc Try.prog Try.f13 Rows.mulfFactorsRow.domain false) (Rows.mulfFactorsSpec.post enc Try.prog Try.f13 false true false false) := by
  refine returnsInHanded_of_change (C := Try.checked) own started (by kernel_rfl) Try.func13
    (ChangeSpec.witness6 (enc := enc) (C := Try.checked) false ⟨#[], #[arrOf .u64 5 (fun _ => 0), arrOf .u64 5 (fun _ => 0)], []⟩ 8 (by kernel_rfl) (by kernel_rfl) (by kernel_rfl) (by kernel_rfl)) ?_
  intro W base args ds gs before hval0 hW hcnd _
  have hval : ∀ (j : Nat) t v, Try.f13.params[j]? = some t → args[j]? = some v → Value.okWide Try.prog W .any base t v := hval0
  have hW' := hW
  obtain ⟨p, q, hA0, hV, rfl, hfz, hnd⟩ := hW
  have hA : DataW.TrodAll enc Try.prog W 0 (fun _ => true) true Try.f13.params.toList args.toList ds p := hA0
  rw [Try.params13] at hA hval
  obtain ⟨v0, v1, d0, d1, p0, p1, rfl, rfl, rfl, h0, h1⟩ := trodAll_two hA
  obtain ⟨rfl, rfl⟩ := trodVars_none hV
  obtain ⟨x0, rfl, w0⟩ := open_arr Try.underlying36 Try.underlying34 (by kernel_rfl) (by kernel_rfl) (hval 0 36 v0 rfl rfl) h0
  obtain ⟨x1, rfl, w1⟩ := open_arr Try.underlying36 Try.underlying34 (by kernel_rfl) (by kernel_rfl) (hval 1 36 v1 rfl rfl) h1
  refine (plain_calls (l13_ctr x0 x1 (isE_of w0) (isE_of w1)) W).mono fun e W' ⟨he, hb⟩ => ?_
  exact ⟨_, he, law_post hW' hb rfl (by kernel_rfl) (reads_of (by kernel_rfl)) ⟨rfl, rfl, rfl⟩⟩

theorem mulfFactors_closed : joinedFacts Try.prog 13 Try.f13 Rows.mulfFactorsSpec Rows.mulfFactorsRow = true := by
  refine (joinedFacts.eq_1 ..).trans ?_
  rw [enters_ok, no_finals, make_is]
  kernel_rfl

theorem mulfFactors_holds : Rows.MulfFactorsSaid :=
  OpenClaim.holds_of_wide 13 Try.f13 rfl rfl rfl rfl rfl rfl rfl ⟨rfl, rfl, rfl, rfl, rfl⟩ rfl rfl rfl rfl rfl (by kernel_rfl) Try.func13 mulfFactors_closed
    (of_decide_eq_true (by kernel_rfl)) (by unfold Func.isWrapper; rw [if_neg (by decide +kernel)]; exact ⟨rfl, rfl⟩)
    (fun os started H enc _ => mulfFactors_lifted os started H enc)

end Go.Proofs.Ythgefjgbkhkmgaa
