/-
  The law MulfAlike, walked, and its row.
-/
import Derived.Test.YthgefjgbkhkmgaaAw3
import Derived.Test.YthgefjgbkhkmgaaRow
import Derived.Test.YthgefjgbkhkmgaaHead
namespace Go.Proofs.Ythgefjgbkhkmgaa
open Go Go.ChangeShapes Go.WideShapes Go.ChangeAt Go.RowKit Ev
attribute [local irreducible] evC evBody

theorem l11_g0 (e : Env) : evBody tab orcV2 [(10, .b false)] [] [] 1000 Try.f11 (bodyOf Try.f11) (mkA elS2 e 0) [] 0 [] (fun r => r = .bool true) =
    (emit (looseB (a0 e elS2 0)) false ∧ Value.bool true = .bool true) := by kernel_rfl
theorem l11_g1 (e : Env) : evBody tab orcV2 [(10, .b true), (14, .b false)] [] [] 1000 Try.f11 (bodyOf Try.f11) (mkA elS2 e 0) [] 0 [] (fun r => r = .bool true) =
    (emit (looseB (a0 e elS2 0)) true ∧ emit (looseB (a0 e elS2 1)) false ∧ Value.bool true = .bool true) := by kernel_rfl
def l11_R (a b : Value) : Prop :=
    emit (looseB a) true ∧
    emit (looseB b) true ∧
    emit (eqV (keyV (mulV a b)) (keyV (mulV (ofV (keyV a)) (ofV (keyV b))))) true ∧
    emit (eqV (keyV (sqV a)) (keyV (sqV (ofV (keyV a))))) true ∧
    emit (eqV (keyV (timesV a (.int .u32 121666))) (keyV (timesV (ofV (keyV a)) (.int .u32 121666)))) true ∧
    Value.bool true = .bool true
theorem l11_run (e : Env) : evBody tab orcV2 [(10, .b true), (14, .b true), (31, .b true), (39, .b true), (48, .b true)] [] [] 1000 Try.f11 (bodyOf Try.f11) (mkA elS2 e 0) [] 0 [] (fun r => r = .bool true) =
    l11_R (a0 e elS2 0) (a0 e elS2 1) := by kernel_rfl
theorem l11_plain {a b : Value} (b_a : bnd a LL) (b_b : bnd b LL) (h_a : looseB a = true) (h_b : looseB b = true) : l11_R a b := by
  have B2 : bnd (mulV a b) LL := bnd_LL (mul_FV b_a b_b).2
  have V2 : FV (mulV a b) = FV a * FV b := (mul_FV b_a b_b).1
  have B3 : bnd (ofV (keyV a)) LL := (of_key b_a).2
  have V3 : FV (ofV (keyV a)) = FV a := (of_key b_a).1
  have B4 : bnd (ofV (keyV b)) LL := (of_key b_b).2
  have V4 : FV (ofV (keyV b)) = FV b := (of_key b_b).1
  have B5 : bnd (mulV (ofV (keyV a)) (ofV (keyV b))) LL := bnd_LL (mul_FV B3 B4).2
  have V5 : FV (mulV (ofV (keyV a)) (ofV (keyV b))) = FV (ofV (keyV a)) * FV (ofV (keyV b)) := (mul_FV B3 B4).1
  have B6 : bnd (sqV a) LL := bnd_LL (sq_FV b_a).2
  have V6 : FV (sqV a) = FV a * FV a := (sq_FV b_a).1
  have B7 : bnd (sqV (ofV (keyV a))) LL := bnd_LL (sq_FV B3).2
  have V7 : FV (sqV (ofV (keyV a))) = FV (ofV (keyV a)) * FV (ofV (keyV a)) := (sq_FV B3).1
  have B8 : bnd (timesV a (.int .u32 121666)) LL := bnd_LL (times_FV b_a ⟨by decide, by decide⟩).2
  have V8 : FV (timesV a (.int .u32 121666)) = FV a * FI 121666 := (times_FV b_a ⟨by decide, by decide⟩).1
  have B9 : bnd (timesV (ofV (keyV a)) (.int .u32 121666)) LL := bnd_LL (times_FV B3 ⟨by decide, by decide⟩).2
  have V9 : FV (timesV (ofV (keyV a)) (.int .u32 121666)) = FV (ofV (keyV a)) * FI 121666 := (times_FV B3 ⟨by decide, by decide⟩).1
  have E0 : FV (mulV a b) = FV (mulV (ofV (keyV a)) (ofV (keyV b))) := by
    simp only [V2, V5, V3, V4]
    skip
  have E1 : FV (sqV a) = FV (sqV (ofV (keyV a))) := by
    simp only [V6, V7, V3]
    skip
  have E2 : FV (timesV a (.int .u32 121666)) = FV (timesV (ofV (keyV a)) (.int .u32 121666)) := by
    simp only [V8, V9, V3]
    skip
  exact ⟨emit_of h_a, emit_of h_b, emit_of (key_eq B2 B5 E0), emit_of (key_eq B6 B7 E1), emit_of (key_eq B8 B9 E2), rfl⟩
theorem l11_ctr (f0 f1 : Nat → Int) (hf0 : isE f0) (hf1 : isE f1) : ∀ q, Ctr Try.prog 11 (mkA elS2 (mkE [f0, f1] []) 0) q (.bool true) := by
  have e0 : a0 (mkE [f0, f1] []) elS2 0 = vE f0 := rfl
  have e1 : a0 (mkE [f0, f1] []) elS2 1 = vE f1 := rfl
  generalize mkE [f0, f1] [] = e at e0 e1
  cases g0 : looseB (vE f0) with
  | false => exact fo_ctr orcV2_ok Try.func11 (by kernel_rfl) ids_mk (of_eq (l11_g0 e) ⟨emit_of (by rw [e0]; exact g0), rfl⟩)
  | true =>
    cases g1 : looseB (vE f1) with
    | false => exact fo_ctr orcV2_ok Try.func11 (by kernel_rfl) ids_mk (of_eq (l11_g1 e) ⟨emit_of (by rw [e0]; exact g0), emit_of (by rw [e1]; exact g1), rfl⟩)
    | true =>
      have hev := l11_run e
      rw [e0, e1] at hev
      exact fo_ctr orcV2_ok Try.func11 (by kernel_rfl) ids_mk (of_eq hev (l11_plain (loose_of hf0 g0) (loose_of hf1 g1) g0 g1))
theorem isE_of {f : Nat → Int} (h : ∀ j, j < 5 → (Lit.int .u64 (f j)).wf = true) : isE f := fun j hj => by
  obtain ⟨h1, h2⟩ := range_of (h j hj)
  have e1 : IntKind.u64.min = 0 := by decide
  have e2 : IntKind.u64.max = 18446744073709551615 := by decide
  rw [e1] at h1; rw [e2] at h2
  exact ⟨h1, by omega⟩

set_option maxRecDepth 100000 in
theorem mulfAlike_lifted (os : Os) (started : os.Started) (H : Type) (enc : TypeId × Value → H) :
    ReturnsInHanded {} Try.checked os 11 .any (Rows.mulfAlikeSpec.pre6 enc Try.prog Try.f11 Rows.mulfAlikeRow.domain false) (Rows.mulfAlikeSpec.post enc Try.prog Try.f11 false true false false) := by
  refine returnsInHanded_of_change (C := Try.checked) own started (by kernel_rfl) Try.func11
    (ChangeSpec.witness6 (enc := enc) (C := Try.checked) false ⟨#[], #[arrOf .u64 5 (fun _ => 0), arrOf .u64 5 (fun _ => 0)], []⟩ 8 (by kernel_rfl) (by kernel_rfl) (by kernel_rfl) (by kernel_rfl)) ?_
  intro W base args ds gs before hval0 hW hcnd _
  have hval : ∀ (j : Nat) t v, Try.f11.params[j]? = some t → args[j]? = some v → Value.okWide Try.prog W .any base t v := hval0
  have hW' := hW
  obtain ⟨p, q, hA0, hV, rfl, hfz, hnd⟩ := hW
  have hA : DataW.TrodAll enc Try.prog W 0 (fun _ => true) true Try.f11.params.toList args.toList ds p := hA0
  rw [Try.params11] at hA hval
  obtain ⟨v0, v1, d0, d1, p0, p1, rfl, rfl, rfl, h0, h1⟩ := trodAll_two hA
  obtain ⟨rfl, rfl⟩ := trodVars_none hV
  obtain ⟨x0, rfl, w0⟩ := open_arr Try.underlying36 Try.underlying34 (by kernel_rfl) (by kernel_rfl) (hval 0 36 v0 rfl rfl) h0
  obtain ⟨x1, rfl, w1⟩ := open_arr Try.underlying36 Try.underlying34 (by kernel_rfl) (by kernel_rfl) (hval 1 36 v1 rfl rfl) h1
  refine (plain_calls (l11_ctr x0 x1 (isE_of w0) (isE_of w1)) W).mono fun e W' ⟨he, hb⟩ => ?_
  exact ⟨_, he, law_post hW' hb rfl (by kernel_rfl) (reads_of (by kernel_rfl)) ⟨rfl, rfl, rfl⟩⟩

theorem mulfAlike_closed : joinedFacts Try.prog 11 Try.f11 Rows.mulfAlikeSpec Rows.mulfAlikeRow = true := by
  refine (joinedFacts.eq_1 ..).trans ?_
  rw [enters_ok, no_finals, make_is]
  kernel_rfl

theorem mulfAlike_holds : Rows.MulfAlikeSaid :=
  OpenClaim.holds_of_wide 11 Try.f11 rfl rfl rfl rfl rfl rfl rfl ⟨rfl, rfl, rfl, rfl, rfl⟩ rfl rfl rfl rfl rfl (by kernel_rfl) Try.func11 mulfAlike_closed
    (of_decide_eq_true (by kernel_rfl)) (by unfold Func.isWrapper; rw [if_neg (by decide +kernel)]; exact ⟨rfl, rfl⟩)
    (fun os started H enc _ => mulfAlike_lifted os started H enc)

end Go.Proofs.Ythgefjgbkhkmgaa
