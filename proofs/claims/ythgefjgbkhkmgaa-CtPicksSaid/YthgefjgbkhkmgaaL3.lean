/-
  The law CtPicks, walked, and its row.
-/
import Derived.Test.YthgefjgbkhkmgaaCtL
import Derived.Test.YthgefjgbkhkmgaaRow
import Derived.Test.YthgefjgbkhkmgaaHead
namespace Go.Proofs.Ythgefjgbkhkmgaa
open Go Go.ChangeShapes Go.WideShapes Go.ChangeAt Go.RowKit Ev

theorem l3_odd (e : Env) : evBody tab orc8 [(14, true), (28, true), (32, true), (37, true)] [] 1000 Try.f3 (bodyOf Try.f3) (mkA pickS e 0) [] 0 [] (fun r => r = .bool true) =
    (emit ((e.i 0 0).tmod 2 != 0) true ∧ emit (eqV (pickV (a0 e pickS 0) (a0 e pickS 1) (a0 e pickS 2)) (a0 e pickS 2)) true ∧
     emit (eqV (pickV (a0 e pickS 0) (a0 e pickS 1) (a0 e pickS 2)) (a0 e pickS 2)) true ∧
     emit (eqV (pickV (a0 e pickS 0) (a0 e pickS 2) (a0 e pickS 1)) (a0 e pickS 1)) true ∧ Value.bool true = .bool true) := by kernel_rfl
theorem l3_even (e : Env) : evBody tab orc8 [(14, false), (44, true), (48, true), (53, true)] [] 1000 Try.f3 (bodyOf Try.f3) (mkA pickS e 0) [] 0 [] (fun r => r = .bool true) =
    (emit ((e.i 0 0).tmod 2 != 0) false ∧ emit (eqV (pickV (a0 e pickS 0) (a0 e pickS 1) (a0 e pickS 2)) (a0 e pickS 1)) true ∧
     emit (eqV (pickV (a0 e pickS 0) (a0 e pickS 1) (a0 e pickS 2)) (a0 e pickS 1)) true ∧
     emit (eqV (pickV (a0 e pickS 0) (a0 e pickS 2) (a0 e pickS 1)) (a0 e pickS 2)) true ∧ Value.bool true = .bool true) := by kernel_rfl

theorem eqV_refl (x : Value) : eqV x x = true := eqL_refl _

theorem l3_ctr (b : Int) (f g : Nat → Int) (hf : ∀ j, j < 32 → isB (f j)) (hg : ∀ j, j < 32 → isB (g j)) :
    ∀ h, Ctr Try.prog 3 (mkA pickS ⟨fun i => match i with | 0 => fun _ => b | 1 => f | _ => g, fun _ => false, fun _ => ByteArray.empty⟩ 0) h (.bool true) := by
  generalize he : (⟨fun i => match i with | 0 => fun _ => b | 1 => f | _ => g, fun _ => false, fun _ => ByteArray.empty⟩ : Env) = e
  have h12 : b % 2 = 1 ∨ b % 2 = 0 := by omega
  rcases h12 with h1 | h1
  · refine fo_ctr orc8_ok Try.func3 (c := bodyOf Try.f3) (by kernel_rfl) ids_mk (Eq.mpr (l3_odd e) ?_)
    subst he
    have p1 : pickV (.int .i64 b) (vK f) (vK g) = vK g := pickV_odd h1 hg
    have p2 : pickV (.int .i64 b) (vK g) (vK f) = vK f := pickV_odd h1 hf
    simp only [a0, pickS, mkA, mk1, getD, p1, p2]
    exact ⟨emit_of (tmod_odd h1), emit_of (eqV_refl _), emit_of (eqV_refl _), emit_of (eqV_refl _), trivial⟩
  · refine fo_ctr orc8_ok Try.func3 (c := bodyOf Try.f3) (by kernel_rfl) ids_mk (Eq.mpr (l3_even e) ?_)
    subst he
    have p1 : pickV (.int .i64 b) (vK f) (vK g) = vK f := pickV_even h1 hf
    have p2 : pickV (.int .i64 b) (vK g) (vK f) = vK g := pickV_even h1 hg
    simp only [a0, pickS, mkA, mk1, getD, p1, p2]
    exact ⟨emit_of (tmod_even h1), emit_of (eqV_refl _), emit_of (eqV_refl _), emit_of (eqV_refl _), trivial⟩

theorem isB_of {x : Int} (h : (Lit.int .u8 x).wf = true) : isB x := by
  obtain ⟨h1, h2⟩ := range_of h
  have e1 : IntKind.u8.min = 0 := by decide
  have e2 : IntKind.u8.max = 255 := by decide
  rw [e1] at h1; rw [e2] at h2
  exact ⟨h1, by omega⟩

set_option maxRecDepth 100000 in
theorem ctPicks_lifted (os : Os) (started : os.Started) (H : Type) (enc : TypeId × Value → H) :
    ReturnsInHanded {} Try.checked os 3 .any (Rows.ctPicksSpec.pre6 enc Try.prog Try.f3 Rows.ctPicksRow.domain false) (Rows.ctPicksSpec.post enc Try.prog Try.f3 false true false false) := by
  refine returnsInHanded_of_change (C := Try.checked) own started (by kernel_rfl) Try.func3 
    (ChangeSpec.witness6 (enc := enc) (C := Try.checked) false ⟨#[], #[.int .i64 0, arrOf .u8 32 (fun _ => 0), arrOf .u8 32 (fun _ => 0)], []⟩ 8 (by kernel_rfl) (by kernel_rfl) (by kernel_rfl) (by kernel_rfl)) ?_
  intro W base args ds gs before hval0 hW hcnd _
  have hval : ∀ (j : Nat) t v, Try.f3.params[j]? = some t → args[j]? = some v → Value.okWide Try.prog W .any base t v := hval0
  have hW' := hW
  obtain ⟨p, q, hA0, hV, rfl, hfz, hnd⟩ := hW
  have hA : DataW.TrodAll enc Try.prog W 0 (fun _ => true) true Try.f3.params.toList args.toList ds p := hA0
  rw [Try.params3] at hA hval
  obtain ⟨v0, v1, v2, d0, d1, d2, p0, p1, p2, rfl, rfl, rfl, h0, h1, h2⟩ := trodAll_three hA
  obtain ⟨rfl, rfl⟩ := trodVars_none hV
  obtain ⟨b, rfl, rfl, rfl, wb⟩ := open_int Try.underlying3 (hval 0 3 v0 rfl rfl) h0
  obtain ⟨f, rfl, wf⟩ := open_arr Try.underlying23 Try.underlying5 (by kernel_rfl) (by kernel_rfl) (hval 1 23 v1 rfl rfl) h1
  obtain ⟨g, rfl, wg⟩ := open_arr Try.underlying23 Try.underlying5 (by kernel_rfl) (by kernel_rfl) (hval 2 23 v2 rfl rfl) h2
  refine (plain_calls (l3_ctr b f g (fun j hj => isB_of (wf j hj)) (fun j hj => isB_of (wg j hj))) W).mono fun e W' ⟨he, hb⟩ => ?_
  exact ⟨_, he, law_post hW' hb rfl (by kernel_rfl) (reads_of (by kernel_rfl)) ⟨rfl, rfl, rfl⟩⟩

theorem ctPicks_closed : joinedFacts Try.prog 3 Try.f3 Rows.ctPicksSpec Rows.ctPicksRow = true := by
  refine (joinedFacts.eq_1 ..).trans ?_
  rw [enters_ok, no_finals, make_is]
  kernel_rfl

theorem ctPicks_holds : Rows.CtPicksSaid :=
  OpenClaim.holds_of_wide 3 Try.f3 rfl rfl rfl rfl rfl rfl rfl ⟨rfl, rfl, rfl, rfl, rfl⟩ rfl rfl rfl rfl rfl (by kernel_rfl) Try.func3 ctPicks_closed
    (of_decide_eq_true (by kernel_rfl)) (by unfold Func.isWrapper; rw [if_neg (by decide +kernel)]; exact ⟨rfl, rfl⟩)
    (fun os started H enc _ => ctPicks_lifted os started H enc)

end Go.Proofs.Ythgefjgbkhkmgaa
