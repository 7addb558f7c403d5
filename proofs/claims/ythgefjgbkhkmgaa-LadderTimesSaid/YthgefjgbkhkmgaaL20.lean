/-
  The law LadderTimes, walked, and its row.
-/
import Derived.Test.YthgefjgbkhkmgaaRef5I
import Derived.Test.YthgefjgbkhkmgaaRow
import Derived.Test.YthgefjgbkhkmgaaHead
namespace Go.Proofs.Ythgefjgbkhkmgaa
open Go Go.ChangeShapes Go.WideShapes Go.ChangeAt Go.RowKit Ev
attribute [local irreducible] evC evBody

open Sap (F P toF pw)
def okE1 (b : Bool) : Prop := b = true
noncomputable def orcG20 (L : Value → Value → Nat → Int) : Orc :=
  oadd (oadd (oadd (oadd orcN1 44 (foOf elS limbsF)) 72 (foOf lpS lpF)) 40 (foOf isS isF)) 71 (foOf ladFS fun a => (true, lims (L (getD a 0) (getD a 1))))
theorem l20_g (L : Value → Value → Nat → Int) (e : Env) : evBody tab (orcG20 L) [(8, .b false)] [] [] 1000 Try.f20 (bodyOf Try.f20) (mkA ladFS e 0) [] 0 [] (fun r => r = .bool true) =
    (emit (looseB (a0 e ladFS 1)) false ∧ Value.bool true = .bool true) := by kernel_rfl
noncomputable def l20_R (L : Value → Value → Nat → Int) (k x : Value) : Prop :=
  emit (looseB x) true ∧ okE (ifP (inU x)) ∧ okE (ifP (isK (dOf k) ∧ can (vNum (FV x)))) ∧ okE (ifP (isP (lims (L k x)) (vNum (Sap.lad 256 (numK (dOf k)).toNat (NF (vNum (FV x))))))) ∧ Value.bool true = .bool true
theorem l20_run (L : Value → Value → Nat → Int) (e : Env) : evBody tab (orcG20 L) [(8, .b true), (16, .ok), (17, .ok), (18, .ok)] [] [] 1000 Try.f20 (bodyOf Try.f20) (mkA ladFS e 0) [] 0 [] (fun r => r = .bool true) =
    l20_R L (a0 e ladFS 0) (a0 e ladFS 1) := by kernel_rfl
def lI (k x : Value) : Nat → Int := limF (ladV k x)
theorem orcG20_ok : OrcOk Try.prog (orcG20 lI) := by
  have h1 : (fun a : List Value => (true, lims (lI (getD a 0) (getD a 1)))) = ladF := rfl
  unfold orcG20
  rw [h1]
  exact oadd_ok (oadd_ok (oadd_ok (oadd_ok orcN1_ok limbs_ok) lpr_ok) is_ok) lad_ok
theorem aff_TT {a : Value} (ha : pb a) : bnd (affV a) TT := (mul_FV ha.1 (bnd_nrm (inv_val ha.2).1)).2
theorem lad_TT {x : Value} (hx : bnd x LL) {f : Nat → Int} (hf : isK f) : bnd (ladV (vK f) x) TT := by
  have key : ∀ n, n = 256 → bnd (affV (spA (maskI (ladN x (vK f) n).w) (ladN x (vK f) n).a (ladN x (vK f) n).b)) TT := by
    intro n hn
    obtain ⟨⟨ha, hb⟩, hw, hs⟩ := ladN_val hx hf n (by omega)
    clear hs hn
    generalize ladN x (vK f) n = s at *
    rcases hw with w | w
    · rw [w, (sp_even (m := 0) rfl ha hb).1]
      exact aff_TT (pb_pr ha)
    · rw [w, (sp_odd (m := 1) rfl ha hb).1]
      exact aff_TT (pb_pr hb)
  have e : ∀ m a b, spA m (n10 a) (n10 b) = spA m a b := fun m a b => rfl
  unfold ladV
  rw [e]
  exact key 256 rfl
theorem l20_ctr (φ f : Nat → Int) (hφ : isK φ) (hf : isE f) : ∀ q, Ctr Try.prog 20 (mkA ladFS (mkE [φ, f] []) 0) q (.bool true) := by
  have e0 : a0 (mkE [φ, f] []) ladFS 0 = vK φ := rfl
  have e1 : a0 (mkE [φ, f] []) ladFS 1 = vE f := rfl
  generalize mkE [φ, f] [] = e at e0 e1
  cases g0 : looseB (vE f) with
  | false =>
    have hev := l20_g lI e
    rw [e1] at hev
    exact fo_ctr orcG20_ok Try.func20 (by kernel_rfl) ids_mk (of_eq hev ⟨emit_of g0, rfl⟩)
  | true =>
    have b0 := loose_of hf g0
    have hev := l20_run lI e
    rw [e0, e1] at hev
    obtain ⟨p1, p2⟩ := lad_val b0 hφ
    refine fo_ctr orcG20_ok Try.func20 (by kernel_rfl) ids_mk (of_eq hev ⟨emit_of g0, okE_of (inU_of b0), okE_of ⟨isK_dOf hφ, can_vNum _⟩, okE_of ⟨bnd_nrm (lad_TT b0 hφ), can_vNum _, ?_⟩, rfl⟩)
    show FV (nrm (ladV (vK φ) (vE f))) = _
    rw [NF_vNum, NF_vNum, FV_nrm, p2, numK_dOf]

theorem isE_of {f : Nat → Int} (h : ∀ j, j < 5 → (Lit.int .u64 (f j)).wf = true) : isE f := fun j hj => by
  obtain ⟨h1, h2⟩ := range_of (h j hj)
  have e1 : IntKind.u64.min = 0 := by decide
  have e2 : IntKind.u64.max = 18446744073709551615 := by decide
  rw [e1] at h1; rw [e2] at h2
  exact ⟨h1, by omega⟩
theorem u32_of {n : Int} (h : (Lit.int .u32 n).wf = true) : 0 ≤ n ∧ n < 4294967296 := by
  obtain ⟨h1, h2⟩ := range_of h
  have e1 : IntKind.u32.min = 0 := by decide
  have e2 : IntKind.u32.max = 4294967295 := by decide
  rw [e1] at h1; rw [e2] at h2
  exact ⟨h1, by omega⟩
theorem isK_of {f : Nat → Int} (h : ∀ j, j < 32 → (Lit.int .u8 (f j)).wf = true) : isK f := fun j hj => isB_of (h j hj)

set_option maxRecDepth 100000 in
theorem ladderTimes_lifted (os : Os) (started : os.Started) (H : Type) (enc : TypeId × Value → H) :
    ReturnsInHanded {} Try.checked os 20 .any (Rows.ladderTimesSpec.pre6 enc Try.prog Try.f20 Rows.ladderTimesRow.domain false) (Rows.ladderTimesSpec.post enc Try.prog Try.f20 false true false false) := by
  refine returnsInHanded_of_change (C := Try.checked) own started (by kernel_rfl) Try.func20
    (ChangeSpec.witness6 (enc := enc) (C := Try.checked) false ⟨#[], #[arrOf .u8 32 (fun _ => 0), arrOf .u64 5 (fun _ => 0)], []⟩ 8 (by kernel_rfl) (by kernel_rfl) (by kernel_rfl) (by kernel_rfl)) ?_
  intro W base args ds gs before hval0 hW hcnd _
  have hval : ∀ (j : Nat) t v, Try.f20.params[j]? = some t → args[j]? = some v → Value.okWide Try.prog W .any base t v := hval0
  have hW' := hW
  obtain ⟨p, q, hA0, hV, rfl, hfz, hnd⟩ := hW
  have hA : DataW.TrodAll enc Try.prog W 0 (fun _ => true) true Try.f20.params.toList args.toList ds p := hA0
  rw [Try.params20] at hA hval
  obtain ⟨v0, v1, d0, d1, p0, p1, rfl, rfl, rfl, h0, h1⟩ := trodAll_two hA
  obtain ⟨rfl, rfl⟩ := trodVars_none hV
  obtain ⟨x0, rfl, w0⟩ := open_arr Try.underlying23 Try.underlying5 (by kernel_rfl) (by kernel_rfl) (hval 0 23 v0 rfl rfl) h0
  obtain ⟨x1, rfl, w1⟩ := open_arr Try.underlying36 Try.underlying34 (by kernel_rfl) (by kernel_rfl) (hval 1 36 v1 rfl rfl) h1
  refine (plain_calls (l20_ctr x0 x1 (isK_of w0) (isE_of w1)) W).mono fun e W' ⟨he, hb⟩ => ?_
  exact ⟨_, he, law_post hW' hb rfl (by kernel_rfl) (reads_of (by kernel_rfl)) ⟨rfl, rfl, rfl⟩⟩

theorem ladderTimes_closed : joinedFacts Try.prog 20 Try.f20 Rows.ladderTimesSpec Rows.ladderTimesRow = true := by
  refine (joinedFacts.eq_1 ..).trans ?_
  rw [enters_ok, no_finals, make_is]
  kernel_rfl

theorem ladderTimes_holds : Rows.LadderTimesSaid :=
  OpenClaim.holds_of_wide 20 Try.f20 rfl rfl rfl rfl rfl rfl rfl ⟨rfl, rfl, rfl, rfl, rfl⟩ rfl rfl rfl rfl rfl (by kernel_rfl) Try.func20 ladderTimes_closed
    (of_decide_eq_true (by kernel_rfl)) (by unfold Func.isWrapper; rw [if_neg (by decide +kernel)]; exact ⟨rfl, rfl⟩)
    (fun os started H enc _ => ladderTimes_lifted os started H enc)

end Go.Proofs.Ythgefjgbkhkmgaa
