/-
  The law InvUndoes, walked, and its row.
-/
import Derived.Test.YthgefjgbkhkmgaaAw4
import Derived.Test.YthgefjgbkhkmgaaRow
import Derived.Test.YthgefjgbkhkmgaaHead
namespace Go.Proofs.Ythgefjgbkhkmgaa
open Go Go.ChangeShapes Go.WideShapes Go.ChangeAt Go.RowKit Ev
attribute [local irreducible] evC evBody

/-- inverses and products by whatever function: nothing of them is looked at -/
def orcG (G : Value → Nat → Int) (M : Value → Value → Nat → Int) : Orc := oadd (oadd orcK1 64 (foOf elS fun a => (true, lims (G (getD a 0))))) 54 (foOf elS2 fun a => (true, lims (M (getD a 0) (getD a 1))))
theorem l16_g0 (G : Value → Nat → Int) (M : Value → Value → Nat → Int) (e : Env) : evBody tab (orcG G M) [(10, .b false)] [] [] 1000 Try.f16 (bodyOf Try.f16) (mkA elS2 e 0) [] 0 [] (fun r => r = .bool true) =
    (emit (looseB (a0 e elS2 0)) false ∧ Value.bool true = .bool true) := by kernel_rfl
theorem l16_g1 (G : Value → Nat → Int) (M : Value → Value → Nat → Int) (e : Env) : evBody tab (orcG G M) [(10, .b true), (14, .b false)] [] [] 1000 Try.f16 (bodyOf Try.f16) (mkA elS2 e 0) [] 0 [] (fun r => r = .bool true) =
    (emit (looseB (a0 e elS2 0)) true ∧ emit (looseB (a0 e elS2 1)) false ∧ Value.bool true = .bool true) := by kernel_rfl
theorem l16_z (G : Value → Nat → Int) (M : Value → Value → Nat → Int) (e : Env) : evBody tab (orcG G M) [(10, .b true), (14, .b true), (22, .b true), (24, .b true)] [] [] 1000 Try.f16 (bodyOf Try.f16) (mkA elS2 e 0) [] 0 [] (fun r => r = .bool true) =
    (emit (looseB (a0 e elS2 0)) true ∧ emit (looseB (a0 e elS2 1)) true ∧ emit (sameB (keyV (a0 e elS2 0)) zeroK) true ∧ emit (sameB (keyV (lims (G (a0 e elS2 0)))) zeroK) true ∧ Value.bool true = .bool true) := by kernel_rfl
def l16_R (G : Value → Nat → Int) (M : Value → Value → Nat → Int) (a b : Value) : Prop :=
    emit (looseB a) true ∧ emit (looseB b) true ∧ emit (sameB (keyV a) zeroK) false ∧
    emit (sameB (keyV (lims (M a (lims (G a))))) (keyV one)) true ∧
    emit (sameB (keyV (lims (G (lims (G a))))) (keyV a)) true ∧
    emit (sameB (keyV (lims (G (lims (M a b))))) (keyV (lims (M (lims (G a)) (lims (G b)))))) true ∧ Value.bool true = .bool true
theorem l16_run (G : Value → Nat → Int) (M : Value → Value → Nat → Int) (e : Env) : evBody tab (orcG G M) [(10, .b true), (14, .b true), (22, .b false), (29, .b true), (34, .b true), (44, .b true)] [] [] 1000 Try.f16 (bodyOf Try.f16) (mkA elS2 e 0) [] 0 [] (fun r => r = .bool true) =
    l16_R G M (a0 e elS2 0) (a0 e elS2 1) := by kernel_rfl
def gI (x : Value) : Nat → Int := limF (invV x)
def mI (x y : Value) : Nat → Int := limF (mulV x y)
theorem gI_eq (x : Value) : lims (gI x) = invN x := rfl
theorem mI_eq (x y : Value) : lims (mI x y) = mulV x y := (show lims (mI x y) = nrm (mulV x y) from rfl).trans (nrm_mul x y)
theorem orcG_ok : OrcOk Try.prog (orcG gI mI) := by
  have h1 : (fun a : List Value => (true, lims (gI (getD a 0)))) = invF := rfl
  have h2 : (fun a : List Value => (true, lims (mI (getD a 0) (getD a 1)))) = mulF := by
    funext a
    rw [mI_eq]
    rfl
  unfold orcG
  rw [h1, h2]
  exact oadd_ok (oadd_ok orcK1_ok inv_ok) mulx_ok
theorem l16_plain {a b : Value} (b_a : bnd a LL) (b_b : bnd b LL) (h_a : looseB a = true) (h_b : looseB b = true) (hz : ¬ FV a = 0) : l16_R gI mI a b := by
  obtain ⟨i1, i2⟩ := invN_val b_a
  obtain ⟨k1, k2⟩ := invN_val b_b
  obtain ⟨j1, j2⟩ := invN_val i1
  have m1 := mul_FV b_a i1
  have m2 := mul_FV b_a b_b
  obtain ⟨n1, n2⟩ := invN_val (bnd_LL m2.2)
  have m3 := mul_FV i1 k1
  unfold l16_R
  simp only [gI_eq, mI_eq]
  refine ⟨emit_of h_a, emit_of h_b, emit_of ?_, emit_of (same_eq (bnd_LL m1.2) one_val.1 ?_), emit_of (same_eq j1 b_a ?_), emit_of (same_eq n1 (bnd_LL m3.2) ?_), trivial⟩
  · rw [same_zero' b_a, decide_eq_false hz]
  · rw [m1.1, i2, one_val.2]; exact Sap.mul_inv hz
  · rw [j2, i2, Sap.inv_inv]
  · rw [n2, m2.1, m3.1, i2, k2, Sap.inv_mul]
theorem l16_ctr (f0 f1 : Nat → Int) (hf0 : isE f0) (hf1 : isE f1) : ∀ q, Ctr Try.prog 16 (mkA elS2 (mkE [f0, f1] []) 0) q (.bool true) := by
  have e0 : a0 (mkE [f0, f1] []) elS2 0 = vE f0 := rfl
  have e1 : a0 (mkE [f0, f1] []) elS2 1 = vE f1 := rfl
  generalize mkE [f0, f1] [] = e at e0 e1
  cases g0 : looseB (vE f0) with
  | false => exact fo_ctr orcG_ok Try.func16 (by kernel_rfl) ids_mk (of_eq (l16_g0 gI mI e) ⟨emit_of (by rw [e0]; exact g0), rfl⟩)
  | true =>
    cases g1 : looseB (vE f1) with
    | false => exact fo_ctr orcG_ok Try.func16 (by kernel_rfl) ids_mk (of_eq (l16_g1 gI mI e) ⟨emit_of (by rw [e0]; exact g0), emit_of (by rw [e1]; exact g1), rfl⟩)
    | true =>
      have b0 := loose_of hf0 g0
      have b1 := loose_of hf1 g1
      by_cases hz : FV (vE f0) = 0
      · have hev := l16_z gI mI e
        rw [e0, e1, gI_eq] at hev
        obtain ⟨i1, i2⟩ := invN_val b0
        exact fo_ctr orcG_ok Try.func16 (by kernel_rfl) ids_mk (of_eq hev ⟨emit_of g0, emit_of g1, emit_of (same_zero b0 hz), emit_of (same_zero i1 (by rw [i2, hz, Sap.inv_zero])), rfl⟩)
      · have hev := l16_run gI mI e
        rw [e0, e1] at hev
        exact fo_ctr orcG_ok Try.func16 (by kernel_rfl) ids_mk (of_eq hev (l16_plain b0 b1 g0 g1 hz))

theorem isE_of {f : Nat → Int} (h : ∀ j, j < 5 → (Lit.int .u64 (f j)).wf = true) : isE f := fun j hj => by
  obtain ⟨h1, h2⟩ := range_of (h j hj)
  have e1 : IntKind.u64.min = 0 := by decide
  have e2 : IntKind.u64.max = 18446744073709551615 := by decide
  rw [e1] at h1; rw [e2] at h2
  exact ⟨h1, by omega⟩
theorem u32_of {n : Int} (h : (Lit.int .u32 n).wf = true) : 0 ≤ n ∧ n < 4294967296 := by
  obtain ⟨h1, h2⟩ := range_of h
  have e1 : IntKind.u32.min = 0 := by decide
  have e2 : IntKind.u32.max = 4294967295 := by decide
  rw [e1] at h1; rw [e2] at h2
  exact ⟨h1, by omega⟩
theorem isK_of {f : Nat → Int} (h : ∀ j, j < 32 → (Lit.int .u8 (f j)).wf = true) : isK f := fun j hj => isB_of (h j hj)

set_option maxRecDepth 100000 in
theorem invUndoes_lifted (os : Os) (started : os.Started) (H : Type) (enc : TypeId × Value → H) :
    ReturnsInHanded {} Try.checked os 16 .any (Rows.invUndoesSpec.pre6 enc Try.prog Try.f16 Rows.invUndoesRow.domain false) (Rows.invUndoesSpec.post enc Try.prog Try.f16 false true false false) := by
  refine returnsInHanded_of_change (C := Try.checked) own started (by kernel_rfl) Try.func16
    (ChangeSpec.witness6 (enc := enc) (C := Try.checked) false ⟨#[], #[arrOf .u64 5 (fun _ => 0), arrOf .u64 5 (fun _ => 0)], []⟩ 8 (by kernel_rfl) (by kernel_rfl) (by kernel_rfl) (by kernel_rfl)) ?_
  intro W base args ds gs before hval0 hW hcnd _
  have hval : ∀ (j : Nat) t v, Try.f16.params[j]? = some t → args[j]? = some v → Value.okWide Try.prog W .any base t v := hval0
  have hW' := hW
  obtain ⟨p, q, hA0, hV, rfl, hfz, hnd⟩ := hW
  have hA : DataW.TrodAll enc Try.prog W 0 (fun _ => true) true Try.f16.params.toList args.toList ds p := hA0
  rw [Try.params16] at hA hval
  obtain ⟨v0, v1, d0, d1, p0, p1, rfl, rfl, rfl, h0, h1⟩ := trodAll_two hA
  obtain ⟨rfl, rfl⟩ := trodVars_none hV
  obtain ⟨x0, rfl, w0⟩ := open_arr Try.underlying36 Try.underlying34 (by kernel_rfl) (by kernel_rfl) (hval 0 36 v0 rfl rfl) h0
  obtain ⟨x1, rfl, w1⟩ := open_arr Try.underlying36 Try.underlying34 (by kernel_rfl) (by kernel_rfl) (hval 1 36 v1 rfl rfl) h1
  refine (plain_calls (l16_ctr x0 x1 (isE_of w0) (isE_of w1)) W).mono fun e W' ⟨he, hb⟩ => ?_
  exact ⟨_, he, law_post hW' hb rfl (by kernel_rfl) (reads_of (by kernel_rfl)) ⟨rfl, rfl, rfl⟩⟩

theorem invUndoes_closed : joinedFacts Try.prog 16 Try.f16 Rows.invUndoesSpec Rows.invUndoesRow = true := by
  refine (joinedFacts.eq_1 ..).trans ?_
  rw [enters_ok, no_finals, make_is]
  kernel_rfl

theorem invUndoes_holds : Rows.InvUndoesSaid :=
  OpenClaim.holds_of_wide 16 Try.f16 rfl rfl rfl rfl rfl rfl rfl ⟨rfl, rfl, rfl, rfl, rfl⟩ rfl rfl rfl rfl rfl (by kernel_rfl) Try.func16 invUndoes_closed
    (of_decide_eq_true (by kernel_rfl)) (by unfold Func.isWrapper; rw [if_neg (by decide +kernel)]; exact ⟨rfl, rfl⟩)
    (fun os started H enc _ => invUndoes_lifted os started H enc)

end Go.Proofs.Ythgefjgbkhkmgaa
