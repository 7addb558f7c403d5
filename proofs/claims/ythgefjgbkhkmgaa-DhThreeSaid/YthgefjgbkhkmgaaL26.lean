/-
  The law DhThree, walked, and its row.
-/
import Derived.Test.YthgefjgbkhkmgaaDhW
import Derived.Test.YthgefjgbkhkmgaaRow
import Derived.Test.YthgefjgbkhkmgaaHead
namespace Go.Proofs.Ythgefjgbkhkmgaa
open Go Go.ChangeShapes Go.WideShapes Go.ChangeAt Go.RowKit Ev
attribute [local irreducible] evC evBody

def k3S : List Sh := [.arr .u8 32, .arr .u8 32, .arr .u8 32]
def l26_R (a b c : Value) : Prop :=
    emit (shOk a (baseV b)) true ∧ emit (shOk b (baseV c)) true ∧ emit (shOk c (baseV a)) true ∧
    emit (eqV (shK c (shK a (baseV b))) (shK a (shK b (baseV c)))) true ∧
    emit (eqV (shK a (shK b (baseV c))) (shK b (shK c (baseV a)))) true ∧ Value.bool true = .bool true
theorem l26_run (e : Env) : evBody tab orcD3 [(27, .b true), (34, .b true), (41, .b true), (70, .b true), (75, .b true)] [] [] 1000 Try.f26 (bodyOf Try.f26) (mkA k3S e 0) [] 0 [] (fun r => r = .bool true) =
    l26_R (a0 e k3S 0) (a0 e k3S 1) (a0 e k3S 2) := by kernel_rfl
theorem sh_base {k b : Nat → Int} (hk : isK k) (hb : isK b) : shK (vK k) (baseV (vK b)) = vK (digN (Sap.lad 256 (cN k) (Sap.lad 256 (cN b) Sap.nine)).val) ∧ shOk (vK k) (baseV (vK b)) = true := by
  rw [base_val hb, sh_val hk (isK_dig _), shOk_val hk (isK_dig _), numV_dig]
  refine ⟨rfl, ?_⟩
  rw [decide_eq_false (Sap.lad_base2 (by decide) (cN_lt hk) (cN_lt hb) (cN_ell hk) (cN_ell hb))]
  rfl
theorem sh_dig {k : Nat → Int} (hk : isK k) (v : Sap.F) : shK (vK k) (vK (digN v.val)) = vK (digN (Sap.lad 256 (cN k) v).val) := by
  rw [sh_val hk (isK_dig _), numV_dig]
theorem com {j k : Nat → Int} (hj : isK j) (hk : isK k) (x : Sap.F) : Sap.lad 256 (cN j) (Sap.lad 256 (cN k) x) = Sap.lad 256 (cN k) (Sap.lad 256 (cN j) x) := Sap.lad_comm (by decide) (cN_lt hj) (cN_lt hk) x
theorem l26_plain {a b c : Nat → Int} (ha : isK a) (hb : isK b) (hc : isK c) : l26_R (vK a) (vK b) (vK c) := by
  obtain ⟨p1, p2⟩ := sh_base ha hb
  obtain ⟨q1, q2⟩ := sh_base hb hc
  obtain ⟨r1, r2⟩ := sh_base hc ha
  refine ⟨emit_of p2, emit_of q2, emit_of r2, emit_of ?_, emit_of ?_, rfl⟩
  · rw [p1, q1, sh_dig hc, sh_dig ha, com hc ha, com hc hb, eqV_refl]
  · rw [q1, r1, sh_dig ha, sh_dig hb, com ha hb, com ha hc, eqV_refl]
theorem l26_ctr (a b c : Nat → Int) (ha : isK a) (hb : isK b) (hc : isK c) : ∀ q, Ctr Try.prog 26 (mkA k3S (mkE [a, b, c] []) 0) q (.bool true) := by
  have e0 : a0 (mkE [a, b, c] []) k3S 0 = vK a := rfl
  have e1 : a0 (mkE [a, b, c] []) k3S 1 = vK b := rfl
  have e2 : a0 (mkE [a, b, c] []) k3S 2 = vK c := rfl
  generalize mkE [a, b, c] [] = e at e0 e1 e2
  have hev := l26_run e
  rw [e0, e1, e2] at hev
  exact fo_ctr orcD3_ok Try.func26 (by kernel_rfl) ids_mk (of_eq hev (l26_plain ha hb hc))

theorem isE_of {f : Nat → Int} (h : ∀ j, j < 5 → (Lit.int .u64 (f j)).wf = true) : isE f := fun j hj => by
  obtain ⟨h1, h2⟩ := range_of (h j hj)
  have e1 : IntKind.u64.min = 0 := by decide
  have e2 : IntKind.u64.max = 18446744073709551615 := by decide
  rw [e1] at h1; rw [e2] at h2
  exact ⟨h1, by omega⟩
theorem u32_of {n : Int} (h : (Lit.int .u32 n).wf = true) : 0 ≤ n ∧ n < 4294967296 := by
  obtain ⟨h1, h2⟩ := range_of h
  have e1 : IntKind.u32.min = 0 := by decide
  have e2 : IntKind.u32.max = 4294967295 := by decide
  rw [e1] at h1; rw [e2] at h2
  exact ⟨h1, by omega⟩
theorem isK_of {f : Nat → Int} (h : ∀ j, j < 32 → (Lit.int .u8 (f j)).wf = true) : isK f := fun j hj => isB_of (h j hj)

set_option maxRecDepth 100000 in
theorem dhThree_lifted (os : Os) (started : os.Started) (H : Type) (enc : TypeId × Value → H) :
    ReturnsInHanded {} Try.checked os 26 .any (Rows.dhThreeSpec.pre6 enc Try.prog Try.f26 Rows.dhThreeRow.domain false) (Rows.dhThreeSpec.post enc Try.prog Try.f26 false true false false) := by
  refine returnsInHanded_of_change (C := Try.checked) own started (by kernel_rfl) Try.func26
    (ChangeSpec.witness6 (enc := enc) (C := Try.checked) false ⟨#[], #[arrOf .u8 32 (fun _ => 0), arrOf .u8 32 (fun _ => 0), arrOf .u8 32 (fun _ => 0)], []⟩ 8 (by kernel_rfl) (by kernel_rfl) (by kernel_rfl) (by kernel_rfl)) ?_
  intro W base args ds gs before hval0 hW hcnd _
  have hval : ∀ (j : Nat) t v, Try.f26.params[j]? = some t → args[j]? = some v → Value.okWide Try.prog W .any base t v := hval0
  have hW' := hW
  obtain ⟨p, q, hA0, hV, rfl, hfz, hnd⟩ := hW
  have hA : DataW.TrodAll enc Try.prog W 0 (fun _ => true) true Try.f26.params.toList args.toList ds p := hA0
  rw [Try.params26] at hA hval
  obtain ⟨v0, v1, v2, d0, d1, d2, p0, p1, p2, rfl, rfl, rfl, h0, h1, h2⟩ := trodAll_three hA
  obtain ⟨rfl, rfl⟩ := trodVars_none hV
  obtain ⟨x0, rfl, w0⟩ := open_arr Try.underlying23 Try.underlying5 (by kernel_rfl) (by kernel_rfl) (hval 0 23 v0 rfl rfl) h0
  obtain ⟨x1, rfl, w1⟩ := open_arr Try.underlying23 Try.underlying5 (by kernel_rfl) (by kernel_rfl) (hval 1 23 v1 rfl rfl) h1
  obtain ⟨x2, rfl, w2⟩ := open_arr Try.underlying23 Try.underlying5 (by kernel_rfl) (by kernel_rfl) (hval 2 23 v2 rfl rfl) h2
  refine (plain_calls (l26_ctr x0 x1 x2 (isK_of w0) (isK_of w1) (isK_of w2)) W).mono fun e W' ⟨he, hb⟩ => ?_
  exact ⟨_, he, law_post hW' hb rfl (by kernel_rfl) (reads_of (by kernel_rfl)) ⟨rfl, rfl, rfl⟩⟩

theorem dhThree_closed : joinedFacts Try.prog 26 Try.f26 Rows.dhThreeSpec Rows.dhThreeRow = true := by
  refine (joinedFacts.eq_1 ..).trans ?_
  rw [enters_ok, no_finals, make_is]
  kernel_rfl

theorem dhThree_holds : Rows.DhThreeSaid :=
  OpenClaim.holds_of_wide 26 Try.f26 rfl rfl rfl rfl rfl rfl rfl ⟨rfl, rfl, rfl, rfl, rfl⟩ rfl rfl rfl rfl rfl (by kernel_rfl) Try.func26 dhThree_closed
    (of_decide_eq_true (by kernel_rfl)) (by unfold Func.isWrapper; rw [if_neg (by decide +kernel)]; exact ⟨rfl, rfl⟩)
    (fun os started H enc _ => dhThree_lifted os started H enc)

end Go.Proofs.Ythgefjgbkhkmgaa
