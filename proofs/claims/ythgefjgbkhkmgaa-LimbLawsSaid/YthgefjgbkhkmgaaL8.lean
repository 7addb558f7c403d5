/-
  The law LimbLaws, walked, and its row.
-/
import Derived.Test.YthgefjgbkhkmgaaAw2
import Derived.Test.YthgefjgbkhkmgaaRow
import Derived.Test.YthgefjgbkhkmgaaHead
namespace Go.Proofs.Ythgefjgbkhkmgaa
open Go Go.ChangeShapes Go.WideShapes Go.ChangeAt Go.RowKit Ev
attribute [local irreducible] evC evBody

def el3S : List Sh := [.arr .u64 5, .arr .u64 5, .arr .u64 5]
def s3V (a b c : Value) : Value := addV (addV (addV zE a) b) c
theorem l8_a (e : Env) : evBody tab orcW1 [(12, .b false)] [] [] 1000 Try.f8 (bodyOf Try.f8) (mkA el3S e 0) [] 0 [] (fun r => r = .bool true) =
    (emit (looseB (a0 e el3S 0)) false ∧ Value.bool true = .bool true) := by kernel_rfl
theorem l8_b (e : Env) : evBody tab orcW1 [(12, .b true), (16, .b false)] [] [] 1000 Try.f8 (bodyOf Try.f8) (mkA el3S e 0) [] 0 [] (fun r => r = .bool true) =
    (emit (looseB (a0 e el3S 0)) true ∧ emit (looseB (a0 e el3S 1)) false ∧ Value.bool true = .bool true) := by kernel_rfl
theorem l8_c (e : Env) : evBody tab orcW1 [(12, .b true), (16, .b true), (21, .b false)] [] [] 1000 Try.f8 (bodyOf Try.f8) (mkA el3S e 0) [] 0 [] (fun r => r = .bool true) =
    (emit (looseB (a0 e el3S 0)) true ∧ emit (looseB (a0 e el3S 1)) true ∧ emit (looseB (a0 e el3S 2)) false ∧ Value.bool true = .bool true) := by kernel_rfl
def l8_R (a b c : Value) : Prop :=
    emit (looseB a) true ∧ emit (looseB b) true ∧ emit (looseB c) true ∧
    emit (eqV (keyV (addV (addV a b) c)) (keyV (addV a (addV c b)))) true ∧
    emit (eqV (keyV (addV (subV a b) b)) (keyV a)) true ∧
    emit (eqV (keyV (subV a a)) zeroK) true ∧
    emit (eqV (keyV (s3V a b c)) (keyV (addV (addV a b) c))) true ∧
    emit (eqV (keyV (subV (subV a b) c)) (keyV (subV a (addV b c)))) true ∧ Value.bool true = .bool true
theorem l8_run (e : Env) : evBody tab orcW1 [(12, .b true), (16, .b true), (21, .b true), (38, .b true), (48, .b true), (56, .b true), (67, .b true), (82, .b true)] [] [] 1000 Try.f8 (bodyOf Try.f8) (mkA el3S e 0) [] 0 [] (fun r => r = .bool true) =
    l8_R (a0 e el3S 0) (a0 e el3S 1) (a0 e el3S 2) := by kernel_rfl

theorem l8_ctr (f g h : Nat → Int) (hf : isE f) (hg : isE g) (hh : isE h) : ∀ q, Ctr Try.prog 8 (mkA el3S (mkE [f, g, h] []) 0) q (.bool true) := by
  have ha : a0 (mkE [f, g, h] []) el3S 0 = vE f := rfl
  have hb : a0 (mkE [f, g, h] []) el3S 1 = vE g := rfl
  have hc : a0 (mkE [f, g, h] []) el3S 2 = vE h := rfl
  generalize mkE [f, g, h] [] = e at ha hb hc
  cases h1 : looseB (vE f) with
  | false => exact fo_ctr orcW1_ok Try.func8 (by kernel_rfl) ids_mk (of_eq (l8_a e) ⟨emit_of (by rw [ha]; exact h1), rfl⟩)
  | true =>
    cases h2 : looseB (vE g) with
    | false => exact fo_ctr orcW1_ok Try.func8 (by kernel_rfl) ids_mk (of_eq (l8_b e) ⟨emit_of (by rw [ha]; exact h1), emit_of (by rw [hb]; exact h2), rfl⟩)
    | true =>
      cases h3 : looseB (vE h) with
      | false => exact fo_ctr orcW1_ok Try.func8 (by kernel_rfl) ids_mk (of_eq (l8_c e) ⟨emit_of (by rw [ha]; exact h1), emit_of (by rw [hb]; exact h2), emit_of (by rw [hc]; exact h3), rfl⟩)
      | true =>
        have hev := l8_run e
        rw [ha, hb, hc] at hev
        have b1 := loose_of hf h1
        have b2 := loose_of hg h2
        have b3 := loose_of hh h3
        have hz : bnd zE LL := bnd_zE
        have vz : FV zE = 0 := FV_zE
        refine fo_ctr orcW1_ok Try.func8 (by kernel_rfl) ids_mk (of_eq hev ⟨emit_of h1, emit_of h2, emit_of h3, emit_of (key_eq ?_ ?_ ?_), emit_of (key_eq ?_ b1 ?_), emit_of (key_zero ?_ ?_), emit_of (key_eq ?_ ?_ ?_), emit_of (key_eq ?_ ?_ ?_), rfl⟩)
        · exact bnd_add (bnd_add b1 b2) b3
        · exact bnd_add b1 (bnd_add b3 b2)
        · rw [FV_add (bnd_add b1 b2) b3, FV_add b1 b2, FV_add b1 (bnd_add b3 b2), FV_add b3 b2]; grind
        · exact bnd_add (bnd_sub b1 b2) b2
        · rw [FV_add (bnd_sub b1 b2) b2, FV_sub b1 b2]; grind
        · exact bnd_sub b1 b1
        · rw [FV_sub b1 b1]; grind
        · exact bnd_add (bnd_add (bnd_add hz b1) b2) b3
        · exact bnd_add (bnd_add b1 b2) b3
        · rw [s3V, FV_add (bnd_add (bnd_add hz b1) b2) b3, FV_add (bnd_add hz b1) b2, FV_add hz b1, FV_add (bnd_add b1 b2) b3, FV_add b1 b2, vz]; grind
        · exact bnd_sub (bnd_sub b1 b2) b3
        · exact bnd_sub b1 (bnd_add b2 b3)
        · rw [FV_sub (bnd_sub b1 b2) b3, FV_sub b1 b2, FV_sub b1 (bnd_add b2 b3), FV_add b2 b3]; grind
theorem isE_of {f : Nat → Int} (h : ∀ j, j < 5 → (Lit.int .u64 (f j)).wf = true) : isE f := fun j hj => by
  obtain ⟨h1, h2⟩ := range_of (h j hj)
  have e1 : IntKind.u64.min = 0 := by decide
  have e2 : IntKind.u64.max = 18446744073709551615 := by decide
  rw [e1] at h1; rw [e2] at h2
  exact ⟨h1, by omega⟩

set_option maxRecDepth 100000 in
theorem limbLaws_lifted (os : Os) (started : os.Started) (H : Type) (enc : TypeId × Value → H) :
    ReturnsInHanded {} Try.checked os 8 .any (Rows.limbLawsSpec.pre6 enc Try.prog Try.f8 Rows.limbLawsRow.domain false) (Rows.limbLawsSpec.post enc Try.prog Try.f8 false true false false) := by
  refine returnsInHanded_of_change (C := Try.checked) own started (by kernel_rfl) Try.func8
    (ChangeSpec.witness6 (enc := enc) (C := Try.checked) false ⟨#[], #[arrOf .u64 5 (fun _ => 0), arrOf .u64 5 (fun _ => 0), arrOf .u64 5 (fun _ => 0)], []⟩ 8 (by kernel_rfl) (by kernel_rfl) (by kernel_rfl) (by kernel_rfl)) ?_
  intro W base args ds gs before hval0 hW hcnd _
  have hval : ∀ (j : Nat) t v, Try.f8.params[j]? = some t → args[j]? = some v → Value.okWide Try.prog W .any base t v := hval0
  have hW' := hW
  obtain ⟨p, q, hA0, hV, rfl, hfz, hnd⟩ := hW
  have hA : DataW.TrodAll enc Try.prog W 0 (fun _ => true) true Try.f8.params.toList args.toList ds p := hA0
  rw [Try.params8] at hA hval
  obtain ⟨v0, v1, v2, d0, d1, d2, p0, p1, p2, rfl, rfl, rfl, h0, h1, h2⟩ := trodAll_three hA
  obtain ⟨rfl, rfl⟩ := trodVars_none hV
  obtain ⟨x0, rfl, w0⟩ := open_arr Try.underlying36 Try.underlying34 (by kernel_rfl) (by kernel_rfl) (hval 0 36 v0 rfl rfl) h0
  obtain ⟨x1, rfl, w1⟩ := open_arr Try.underlying36 Try.underlying34 (by kernel_rfl) (by kernel_rfl) (hval 1 36 v1 rfl rfl) h1
  obtain ⟨x2, rfl, w2⟩ := open_arr Try.underlying36 Try.underlying34 (by kernel_rfl) (by kernel_rfl) (hval 2 36 v2 rfl rfl) h2
  refine (plain_calls (l8_ctr x0 x1 x2 (isE_of w0) (isE_of w1) (isE_of w2)) W).mono fun e W' ⟨he, hb⟩ => ?_
  exact ⟨_, he, law_post hW' hb rfl (by kernel_rfl) (reads_of (by kernel_rfl)) ⟨rfl, rfl, rfl⟩⟩

theorem limbLaws_closed : joinedFacts Try.prog 8 Try.f8 Rows.limbLawsSpec Rows.limbLawsRow = true := by
  refine (joinedFacts.eq_1 ..).trans ?_
  rw [enters_ok, no_finals, make_is]
  kernel_rfl

theorem limbLaws_holds : Rows.LimbLawsSaid :=
  OpenClaim.holds_of_wide 8 Try.f8 rfl rfl rfl rfl rfl rfl rfl ⟨rfl, rfl, rfl, rfl, rfl⟩ rfl rfl rfl rfl rfl (by kernel_rfl) Try.func8 limbLaws_closed
    (of_decide_eq_true (by kernel_rfl)) (by unfold Func.isWrapper; rw [if_neg (by decide +kernel)]; exact ⟨rfl, rfl⟩)
    (fun os started H enc _ => limbLaws_lifted os started H enc)

end Go.Proofs.Ythgefjgbkhkmgaa
