/-
  The law DhMakes, walked, and its row.
-/
import Derived.Test.YthgefjgbkhkmgaaRef5
import Derived.Test.YthgefjgbkhkmgaaRow
import Derived.Test.YthgefjgbkhkmgaaHead
namespace Go.Proofs.Ythgefjgbkhkmgaa
open Go Go.ChangeShapes Go.WideShapes Go.ChangeAt Go.RowKit Ev
attribute [local irreducible] evC evBody

open Sap (F P toF pw)
def okE1 (b : Bool) : Prop := b = true
def okE (b : Bool) : Prop := (true && b) = true
theorem okE_of {p : Prop} (h : p) : okE (ifP p) := by unfold okE; rw [ifP_of h]; rfl
theorem okE1_of {p : Prop} (h : p) : okE1 (ifP p) := ifP_of h
theorem emit_bq {a b : Bool} (h : a = b) : emit (a == b) true := by subst h; cases a <;> rfl
noncomputable def orcX24 : Orc := oadd (oadd (oadd (oadd orcD3 48 (foOf keyS2 shrF)) 78 (foOf zeroS clrF)) 80 (foOf keyS2 rwF)) 81 (foOf zeroS bsF)
theorem orcX24_ok : OrcOk Try.prog orcX24 := oadd_ok (oadd_ok (oadd_ok (oadd_ok orcD3_ok shr_ok) clr_ok) rwr_ok) bsr_ok
noncomputable def l24_A (k p : Value) (q : Prop) : Prop :=
  okE1 (ifP (isK (dOf k) ∧ isK (dOf p))) ∧ okE1 (ifP (isK (dOf k))) ∧ emit (eqV (clV k) (clV k)) true ∧
  okE (ifP (isK (dOf k) ∧ isK (dOf p))) ∧ emit (eqV (rawV k p) (rawV k p)) true ∧ okE (ifP (isK (dOf k))) ∧ emit (eqV (baseV k) (baseV k)) true ∧
  emit (eqV (shK k p) (shK k p)) true ∧ emit (shOk k p == shE k p) true ∧ q
theorem l24_ok (e : Env) : evBody tab orcX24 [(20, .ok), (26, .ok), (27, .b true), (34, .ok), (35, .b true), (41, .ok), (42, .b true), (47, .b true), (52, .b true), (55, .b true)] [] [] 1000 Try.f24 (bodyOf Try.f24) (mkA keyS2 e 0) [] 0 [] (fun r => r = .bool true) =
    l24_A (a0 e keyS2 0) (a0 e keyS2 1) (emit (shOk (a0 e keyS2 0) (a0 e keyS2 1)) true ∧ Value.bool true = .bool true) := by kernel_rfl
theorem l24_no (e : Env) : evBody tab orcX24 [(20, .ok), (26, .ok), (27, .b true), (34, .ok), (35, .b true), (41, .ok), (42, .b true), (47, .b true), (52, .b true), (55, .b false), (59, .b true)] [] [] 1000 Try.f24 (bodyOf Try.f24) (mkA keyS2 e 0) [] 0 [] (fun r => r = .bool true) =
    l24_A (a0 e keyS2 0) (a0 e keyS2 1) (emit (shOk (a0 e keyS2 0) (a0 e keyS2 1)) false ∧ emit (eqV (shK (a0 e keyS2 0) (a0 e keyS2 1)) zeroK) true ∧ Value.bool true = .bool true) := by kernel_rfl
theorem isK_d24 {f : Nat → Int} (hf : isK f) : isK (dOf (vK f)) := fun j hj => by
  show isB (lim (vK f) j)
  rw [lim_vK hj]; exact hf j hj
theorem sh_same {k p : Nat → Int} (hk : isK k) (hp : isK p) : shOk (vK k) (vK p) = shE (vK k) (vK p) := by
  unfold shOk shE
  rw [sh_val hk hp, zeroK_is, keyN_eq, sameB_eq (isK_dig _) (isK_dig _)]
theorem l24_all {k p : Nat → Int} (hk : isK k) (hp : isK p) {q : Prop} (hq : q) : l24_A (vK k) (vK p) q :=
  ⟨okE1_of ⟨isK_d24 hk, isK_d24 hp⟩, okE1_of (isK_d24 hk), emit_of (eqV_refl _), okE_of ⟨isK_d24 hk, isK_d24 hp⟩, emit_of (eqV_refl _), okE_of (isK_d24 hk), emit_of (eqV_refl _), emit_of (eqV_refl _), emit_bq (sh_same hk hp), hq⟩
theorem l24_ctr (k p : Nat → Int) (hk : isK k) (hp : isK p) : ∀ q, Ctr Try.prog 24 (mkA keyS2 (mkE [k, p] []) 0) q (.bool true) := by
  have e0 : a0 (mkE [k, p] []) keyS2 0 = vK k := rfl
  have e1 : a0 (mkE [k, p] []) keyS2 1 = vK p := rfl
  generalize mkE [k, p] [] = e at e0 e1
  cases h : shOk (vK k) (vK p) with
  | true =>
    have hev := l24_ok e
    rw [e0, e1] at hev
    exact fo_ctr orcX24_ok Try.func24 (by kernel_rfl) ids_mk (of_eq hev (l24_all hk hp ⟨emit_of h, rfl⟩))
  | false =>
    have hev := l24_no e
    rw [e0, e1] at hev
    have hz : eqV (shK (vK k) (vK p)) zeroK = true := by
      rw [sh_same hk hp] at h
      unfold shE at h
      cases hc : eqV (shK (vK k) (vK p)) zeroK with
      | true => rfl
      | false => rw [hc] at h; cases h
    exact fo_ctr orcX24_ok Try.func24 (by kernel_rfl) ids_mk (of_eq hev (l24_all hk hp ⟨emit_of h, emit_of hz, rfl⟩))

theorem isE_of {f : Nat → Int} (h : ∀ j, j < 5 → (Lit.int .u64 (f j)).wf = true) : isE f := fun j hj => by
  obtain ⟨h1, h2⟩ := range_of (h j hj)
  have e1 : IntKind.u64.min = 0 := by decide
  have e2 : IntKind.u64.max = 18446744073709551615 := by decide
  rw [e1] at h1; rw [e2] at h2
  exact ⟨h1, by omega⟩
theorem u32_of {n : Int} (h : (Lit.int .u32 n).wf = true) : 0 ≤ n ∧ n < 4294967296 := by
  obtain ⟨h1, h2⟩ := range_of h
  have e1 : IntKind.u32.min = 0 := by decide
  have e2 : IntKind.u32.max = 4294967295 := by decide
  rw [e1] at h1; rw [e2] at h2
  exact ⟨h1, by omega⟩
theorem isK_of {f : Nat → Int} (h : ∀ j, j < 32 → (Lit.int .u8 (f j)).wf = true) : isK f := fun j hj => isB_of (h j hj)

set_option maxRecDepth 100000 in
theorem dhMakes_lifted (os : Os) (started : os.Started) (H : Type) (enc : TypeId × Value → H) :
    ReturnsInHanded {} Try.checked os 24 .any (Rows.dhMakesSpec.pre6 enc Try.prog Try.f24 Rows.dhMakesRow.domain false) (Rows.dhMakesSpec.post enc Try.prog Try.f24 false true false false) := by
  refine returnsInHanded_of_change (C := Try.checked) own started (by kernel_rfl) Try.func24
    (ChangeSpec.witness6 (enc := enc) (C := Try.checked) false ⟨#[], #[arrOf .u8 32 (fun _ => 0), arrOf .u8 32 (fun _ => 0)], []⟩ 8 (by kernel_rfl) (by kernel_rfl) (by kernel_rfl) (by kernel_rfl)) ?_
  intro W base args ds gs before hval0 hW hcnd _
  have hval : ∀ (j : Nat) t v, Try.f24.params[j]? = some t → args[j]? = some v → Value.okWide Try.prog W .any base t v := hval0
  have hW' := hW
  obtain ⟨p, q, hA0, hV, rfl, hfz, hnd⟩ := hW
  have hA : DataW.TrodAll enc Try.prog W 0 (fun _ => true) true Try.f24.params.toList args.toList ds p := hA0
  rw [Try.params24] at hA hval
  obtain ⟨v0, v1, d0, d1, p0, p1, rfl, rfl, rfl, h0, h1⟩ := trodAll_two hA
  obtain ⟨rfl, rfl⟩ := trodVars_none hV
  obtain ⟨x0, rfl, w0⟩ := open_arr Try.underlying23 Try.underlying5 (by kernel_rfl) (by kernel_rfl) (hval 0 23 v0 rfl rfl) h0
  obtain ⟨x1, rfl, w1⟩ := open_arr Try.underlying23 Try.underlying5 (by kernel_rfl) (by kernel_rfl) (hval 1 23 v1 rfl rfl) h1
  refine (plain_calls (l24_ctr x0 x1 (isK_of w0) (isK_of w1)) W).mono fun e W' ⟨he, hb⟩ => ?_
  exact ⟨_, he, law_post hW' hb rfl (by kernel_rfl) (reads_of (by kernel_rfl)) ⟨rfl, rfl, rfl⟩⟩

theorem dhMakes_closed : joinedFacts Try.prog 24 Try.f24 Rows.dhMakesSpec Rows.dhMakesRow = true := by
  refine (joinedFacts.eq_1 ..).trans ?_
  rw [enters_ok, no_finals, make_is]
  kernel_rfl

theorem dhMakes_holds : Rows.DhMakesSaid :=
  OpenClaim.holds_of_wide 24 Try.f24 rfl rfl rfl rfl rfl rfl rfl ⟨rfl, rfl, rfl, rfl, rfl⟩ rfl rfl rfl rfl rfl (by kernel_rfl) Try.func24 dhMakes_closed
    (of_decide_eq_true (by kernel_rfl)) (by unfold Func.isWrapper; rw [if_neg (by decide +kernel)]; exact ⟨rfl, rfl⟩)
    (fun os started H enc _ => dhMakes_lifted os started H enc)

end Go.Proofs.Ythgefjgbkhkmgaa
