/-
  The law LadderOrder, walked, and its row.
-/
import Derived.Test.YthgefjgbkhkmgaaAw5
import Derived.Test.YthgefjgbkhkmgaaRow
import Derived.Test.YthgefjgbkhkmgaaHead
namespace Go.Proofs.Ythgefjgbkhkmgaa
open Go Go.ChangeShapes Go.WideShapes Go.ChangeAt Go.RowKit Ev
attribute [local irreducible] evC evBody

def ordS : List Sh := [.arr .u8 32, .arr .u8 32, .arr .u64 5]
theorem l22_g (e : Env) : evBody tab orcN1 [(12, .b false)] [] [] 1000 Try.f22 (bodyOf Try.f22) (mkA ordS e 0) [] 0 [] (fun r => r = .bool true) =
    (emit (looseB (a0 e ordS 2)) false ∧ Value.bool true = .bool true) := by kernel_rfl
def l22_R (j k x : Value) : Prop :=
    emit (looseB x) true ∧
    emit (sameB (keyV (ladK j (ladK k x))) (keyV (ladK k (ladK j x)))) true ∧
    emit (sameB (keyV (ladK zeroK x)) zeroK) true ∧
    emit (sameB (keyV (ladK (vK (kB 1)) x)) (keyV x)) true ∧ Value.bool true = .bool true
theorem l22_run (e : Env) : evBody tab orcN1 [(12, .b true), (26, .b true), (31, .b true), (38, .b true)] [] [] 1000 Try.f22 (bodyOf Try.f22) (mkA ordS e 0) [] 0 [] (fun r => r = .bool true) =
    l22_R (a0 e ordS 0) (a0 e ordS 1) (a0 e ordS 2) := by kernel_rfl
theorem l22_plain {j k : Nat → Int} {x : Value} (hj : isK j) (hk : isK k) (b_x : bnd x LL) (h_x : looseB x = true) : l22_R (vK j) (vK k) x := by
  obtain ⟨p1, p2⟩ := ladK_val b_x hk
  obtain ⟨q1, q2⟩ := ladK_val p1 hj
  obtain ⟨r1, r2⟩ := ladK_val b_x hj
  obtain ⟨s1, s2⟩ := ladK_val r1 hk
  obtain ⟨z1, z2⟩ := ladK_val b_x isK_zero
  obtain ⟨o1, o2⟩ := ladK_val b_x isK_one
  refine ⟨emit_of h_x, emit_of (same_eq q1 s1 ?_), emit_of (same_zero z1 ?_), emit_of (same_eq o1 b_x ?_), rfl⟩
  · rw [q2, p2, s2, r2]
    exact Sap.lad_comm (by decide) (numK_nonneg hj).2 (numK_nonneg hk).2 _
  · show FV (ladK (vK fun _ => 0) x) = 0
    rw [z2, numK_zero]
    exact Sap.lad_0 (by decide) _
  · rw [o2, numK_kB]
    exact Sap.lad_1 (by decide) _
theorem l22_ctr (j k f : Nat → Int) (hj : isK j) (hk : isK k) (hf : isE f) : ∀ q, Ctr Try.prog 22 (mkA ordS (mkE [j, k, f] []) 0) q (.bool true) := by
  have e0 : a0 (mkE [j, k, f] []) ordS 0 = vK j := rfl
  have e1 : a0 (mkE [j, k, f] []) ordS 1 = vK k := rfl
  have e2 : a0 (mkE [j, k, f] []) ordS 2 = vE f := rfl
  generalize mkE [j, k, f] [] = e at e0 e1 e2
  cases g0 : looseB (vE f) with
  | false => exact fo_ctr orcN1_ok Try.func22 (by kernel_rfl) ids_mk (of_eq (l22_g e) ⟨emit_of (by rw [e2]; exact g0), rfl⟩)
  | true =>
    have hev := l22_run e
    rw [e0, e1, e2] at hev
    exact fo_ctr orcN1_ok Try.func22 (by kernel_rfl) ids_mk (of_eq hev (l22_plain hj hk (loose_of hf g0) g0))

theorem isE_of {f : Nat → Int} (h : ∀ j, j < 5 → (Lit.int .u64 (f j)).wf = true) : isE f := fun j hj => by
  obtain ⟨h1, h2⟩ := range_of (h j hj)
  have e1 : IntKind.u64.min = 0 := by decide
  have e2 : IntKind.u64.max = 18446744073709551615 := by decide
  rw [e1] at h1; rw [e2] at h2
  exact ⟨h1, by omega⟩
theorem u32_of {n : Int} (h : (Lit.int .u32 n).wf = true) : 0 ≤ n ∧ n < 4294967296 := by
  obtain ⟨h1, h2⟩ := range_of h
  have e1 : IntKind.u32.min = 0 := by decide
  have e2 : IntKind.u32.max = 4294967295 := by decide
  rw [e1] at h1; rw [e2] at h2
  exact ⟨h1, by omega⟩
theorem isK_of {f : Nat → Int} (h : ∀ j, j < 32 → (Lit.int .u8 (f j)).wf = true) : isK f := fun j hj => isB_of (h j hj)

set_option maxRecDepth 100000 in
theorem ladderOrder_lifted (os : Os) (started : os.Started) (H : Type) (enc : TypeId × Value → H) :
    ReturnsInHanded {} Try.checked os 22 .any (Rows.ladderOrderSpec.pre6 enc Try.prog Try.f22 Rows.ladderOrderRow.domain false) (Rows.ladderOrderSpec.post enc Try.prog Try.f22 false true false false) := by
  refine returnsInHanded_of_change (C := Try.checked) own started (by kernel_rfl) Try.func22
    (ChangeSpec.witness6 (enc := enc) (C := Try.checked) false ⟨#[], #[arrOf .u8 32 (fun _ => 0), arrOf .u8 32 (fun _ => 0), arrOf .u64 5 (fun _ => 0)], []⟩ 8 (by kernel_rfl) (by kernel_rfl) (by kernel_rfl) (by kernel_rfl)) ?_
  intro W base args ds gs before hval0 hW hcnd _
  have hval : ∀ (j : Nat) t v, Try.f22.params[j]? = some t → args[j]? = some v → Value.okWide Try.prog W .any base t v := hval0
  have hW' := hW
  obtain ⟨p, q, hA0, hV, rfl, hfz, hnd⟩ := hW
  have hA : DataW.TrodAll enc Try.prog W 0 (fun _ => true) true Try.f22.params.toList args.toList ds p := hA0
  rw [Try.params22] at hA hval
  obtain ⟨v0, v1, v2, d0, d1, d2, p0, p1, p2, rfl, rfl, rfl, h0, h1, h2⟩ := trodAll_three hA
  obtain ⟨rfl, rfl⟩ := trodVars_none hV
  obtain ⟨x0, rfl, w0⟩ := open_arr Try.underlying23 Try.underlying5 (by kernel_rfl) (by kernel_rfl) (hval 0 23 v0 rfl rfl) h0
  obtain ⟨x1, rfl, w1⟩ := open_arr Try.underlying23 Try.underlying5 (by kernel_rfl) (by kernel_rfl) (hval 1 23 v1 rfl rfl) h1
  obtain ⟨x2, rfl, w2⟩ := open_arr Try.underlying36 Try.underlying34 (by kernel_rfl) (by kernel_rfl) (hval 2 36 v2 rfl rfl) h2
  refine (plain_calls (l22_ctr x0 x1 x2 (isK_of w0) (isK_of w1) (isE_of w2)) W).mono fun e W' ⟨he, hb⟩ => ?_
  exact ⟨_, he, law_post hW' hb rfl (by kernel_rfl) (reads_of (by kernel_rfl)) ⟨rfl, rfl, rfl⟩⟩

theorem ladderOrder_closed : joinedFacts Try.prog 22 Try.f22 Rows.ladderOrderSpec Rows.ladderOrderRow = true := by
  refine (joinedFacts.eq_1 ..).trans ?_
  rw [enters_ok, no_finals, make_is]
  kernel_rfl

theorem ladderOrder_holds : Rows.LadderOrderSaid :=
  OpenClaim.holds_of_wide 22 Try.f22 rfl rfl rfl rfl rfl rfl rfl ⟨rfl, rfl, rfl, rfl, rfl⟩ rfl rfl rfl rfl rfl (by kernel_rfl) Try.func22 ladderOrder_closed
    (of_decide_eq_true (by kernel_rfl)) (by unfold Func.isWrapper; rw [if_neg (by decide +kernel)]; exact ⟨rfl, rfl⟩)
    (fun os started H enc _ => ladderOrder_lifted os started H enc)

end Go.Proofs.Ythgefjgbkhkmgaa
