/-
  The law DhZero, walked, and its row.
-/
import Derived.Test.YthgefjgbkhkmgaaDhW
import Derived.Test.YthgefjgbkhkmgaaRow
import Derived.Test.YthgefjgbkhkmgaaHead
namespace Go.Proofs.Ythgefjgbkhkmgaa
open Go Go.ChangeShapes Go.WideShapes Go.ChangeAt Go.RowKit Ev
attribute [local irreducible] evC evBody

def l23_R (k : Value) : Prop :=
    emit (shOk k (vK (pK 236))) false ∧ emit (!(eqV (shK k (vK (pK 236))) zeroK)) false ∧ emit (shOk k (vK (pK 237))) false ∧ emit (!(eqV (shK k (vK (pK 237))) zeroK)) false ∧ emit (shOk k (vK (pK 238))) false ∧ emit (!(eqV (shK k (vK (pK 238))) zeroK)) false ∧
    emit (shOk k zeroK) false ∧ emit (shOk k (vK (kB 1))) false ∧ emit (eqV (shK k zeroK) zeroK) true ∧ emit (eqV (shK k (vK (kB 1))) zeroK) true ∧ Value.bool true = .bool true
theorem l23_run (e : Env) : evBody tab orcD3 [(35, .b false), (40, .b false), (48, .b false), (54, .b false), (64, .b true), (69, .b true)] [] [] 1000 Try.f23 (bodyOf Try.f23) (mkA zeroS e 0) [] 0 [] (fun r => r = .bool true) =
    l23_R (a0 e zeroS 0) := by kernel_rfl
theorem sh_zero {k p : Nat → Int} (hk : isK k) (hp : isK p) (h : numV p = 0 ∨ numV p = 1 ∨ numV p = -1) : shOk (vK k) (vK p) = false ∧ eqV (shK (vK k) (vK p)) zeroK = true := by
  obtain ⟨c8, _, c3⟩ := cl_num hk
  have hl : Sap.lad 256 (cN k) (numV p) = 0 := by
    have e : cN k = 4 * (cN k / 4) := by
      show (numK (clF k)).toNat = 4 * ((numK (clF k)).toNat / 4)
      omega
    have hlt := cN_lt hk
    rw [e] at hlt ⊢
    exact Sap.lad_small (by decide) hlt _ h
  refine ⟨?_, ?_⟩
  · rw [shOk_val hk hp, hl]; rfl
  · rw [sh_val hk hp, hl]
    decide +kernel
theorem l23_plain {k : Nat → Int} (hk : isK k) : l23_R (vK k) := by
  have b : ∀ x, isB x → isK (pK x) := fun x h => isK_pK h
  obtain ⟨a1, a2⟩ := sh_zero hk (b 236 ⟨by decide, by decide⟩) (Or.inr (Or.inr (by decide +kernel)))
  obtain ⟨b1, b2⟩ := sh_zero hk (b 237 ⟨by decide, by decide⟩) (Or.inl (by decide +kernel))
  obtain ⟨c1, c2⟩ := sh_zero hk (b 238 ⟨by decide, by decide⟩) (Or.inr (Or.inl (by decide +kernel)))
  obtain ⟨d1, d2⟩ := sh_zero hk isK_zero (Or.inl (by decide +kernel))
  obtain ⟨f1, f2⟩ := sh_zero hk isK_one (Or.inr (Or.inl (by decide +kernel)))
  exact ⟨emit_of a1, emit_ne a2, emit_of b1, emit_ne b2, emit_of c1, emit_ne c2, emit_of d1, emit_of f1, emit_of d2, emit_of f2, rfl⟩
theorem l23_ctr (k : Nat → Int) (hk : isK k) : ∀ q, Ctr Try.prog 23 (mkA zeroS (mkE [k] []) 0) q (.bool true) := by
  have e0 : a0 (mkE [k] []) zeroS 0 = vK k := rfl
  generalize mkE [k] [] = e at e0
  have hev := l23_run e
  rw [e0] at hev
  exact fo_ctr orcD3_ok Try.func23 (by kernel_rfl) ids_mk (of_eq hev (l23_plain hk))

theorem isE_of {f : Nat → Int} (h : ∀ j, j < 5 → (Lit.int .u64 (f j)).wf = true) : isE f := fun j hj => by
  obtain ⟨h1, h2⟩ := range_of (h j hj)
  have e1 : IntKind.u64.min = 0 := by decide
  have e2 : IntKind.u64.max = 18446744073709551615 := by decide
  rw [e1] at h1; rw [e2] at h2
  exact ⟨h1, by omega⟩
theorem u32_of {n : Int} (h : (Lit.int .u32 n).wf = true) : 0 ≤ n ∧ n < 4294967296 := by
  obtain ⟨h1, h2⟩ := range_of h
  have e1 : IntKind.u32.min = 0 := by decide
  have e2 : IntKind.u32.max = 4294967295 := by decide
  rw [e1] at h1; rw [e2] at h2
  exact ⟨h1, by omega⟩
theorem isK_of {f : Nat → Int} (h : ∀ j, j < 32 → (Lit.int .u8 (f j)).wf = true) : isK f := fun j hj => isB_of (h j hj)

set_option maxRecDepth 100000 in
theorem dhZero_lifted (os : Os) (started : os.Started) (H : Type) (enc : TypeId × Value → H) :
    ReturnsInHanded {} Try.checked os 23 .any (Rows.dhZeroSpec.pre6 enc Try.prog Try.f23 Rows.dhZeroRow.domain false) (Rows.dhZeroSpec.post enc Try.prog Try.f23 false true false false) := by
  refine returnsInHanded_of_change (C := Try.checked) own started (by kernel_rfl) Try.func23
    (ChangeSpec.witness6 (enc := enc) (C := Try.checked) false ⟨#[], #[arrOf .u8 32 (fun _ => 0)], []⟩ 8 (by kernel_rfl) (by kernel_rfl) (by kernel_rfl) (by kernel_rfl)) ?_
  intro W base args ds gs before hval0 hW hcnd _
  have hval : ∀ (j : Nat) t v, Try.f23.params[j]? = some t → args[j]? = some v → Value.okWide Try.prog W .any base t v := hval0
  have hW' := hW
  obtain ⟨p, q, hA0, hV, rfl, hfz, hnd⟩ := hW
  have hA : DataW.TrodAll enc Try.prog W 0 (fun _ => true) true Try.f23.params.toList args.toList ds p := hA0
  rw [Try.params23] at hA hval
  obtain ⟨v0, d0, rfl, rfl, h0⟩ := trodAll_one hA
  obtain ⟨rfl, rfl⟩ := trodVars_none hV
  obtain ⟨x0, rfl, w0⟩ := open_arr Try.underlying23 Try.underlying5 (by kernel_rfl) (by kernel_rfl) (hval 0 23 v0 rfl rfl) h0
  refine (plain_calls (l23_ctr x0 (isK_of w0)) W).mono fun e W' ⟨he, hb⟩ => ?_
  exact ⟨_, he, law_post hW' hb rfl (by kernel_rfl) (reads_of (by kernel_rfl)) ⟨rfl, rfl, rfl⟩⟩

theorem dhZero_closed : joinedFacts Try.prog 23 Try.f23 Rows.dhZeroSpec Rows.dhZeroRow = true := by
  refine (joinedFacts.eq_1 ..).trans ?_
  rw [enters_ok, no_finals, make_is]
  kernel_rfl

theorem dhZero_holds : Rows.DhZeroSaid :=
  OpenClaim.holds_of_wide 23 Try.f23 rfl rfl rfl rfl rfl rfl rfl ⟨rfl, rfl, rfl, rfl, rfl⟩ rfl rfl rfl rfl rfl (by kernel_rfl) Try.func23 dhZero_closed
    (of_decide_eq_true (by kernel_rfl)) (by unfold Func.isWrapper; rw [if_neg (by decide +kernel)]; exact ⟨rfl, rfl⟩)
    (fun os started H enc _ => dhZero_lifted os started H enc)

end Go.Proofs.Ythgefjgbkhkmgaa
