/-
  The law InvSwaps, walked, and its row.
-/
import Derived.Test.YthgefjgbkhkmgaaAw4
import Derived.Test.YthgefjgbkhkmgaaRow
import Derived.Test.YthgefjgbkhkmgaaHead
namespace Go.Proofs.Ythgefjgbkhkmgaa
open Go Go.ChangeShapes Go.WideShapes Go.ChangeAt Go.RowKit Ev
attribute [local irreducible] evC evBody

def uA (m : Int) (a b : Value) : Value := swA m (swA m a b) (swB m a b)
def uB (m : Int) (a b : Value) : Value := swB m (swA m a b) (swB m a b)
theorem l17_g (e : Env) : evBody tab orcK1 [(29, .b false), (33, .b false), (36, .b false)] [] [] 1000 Try.f17 (bodyOf Try.f17) (mkA swS e 0) [] 0 [] (fun r => r = .bool true) =
    (emit (!(eqV (uA (maskI (e.i 0 0)) (a0 e swS 1) (a0 e swS 2)) (a0 e swS 1))) false ∧ emit (!(eqV (uB (maskI (e.i 0 0)) (a0 e swS 1) (a0 e swS 2)) (a0 e swS 2))) false ∧ emit (looseB (a0 e swS 1)) false ∧ Value.bool true = .bool true) := by kernel_rfl
theorem l17_run (e : Env) : evBody tab orcK1 [(29, .b false), (33, .b false), (36, .b true), (43, .b true), (50, .b true)] [] [] 1000 Try.f17 (bodyOf Try.f17) (mkA swS e 0) [] 0 [] (fun r => r = .bool true) =
    (emit (!(eqV (uA (maskI (e.i 0 0)) (a0 e swS 1) (a0 e swS 2)) (a0 e swS 1))) false ∧ emit (!(eqV (uB (maskI (e.i 0 0)) (a0 e swS 1) (a0 e swS 2)) (a0 e swS 2))) false ∧ emit (looseB (a0 e swS 1)) true ∧
      emit (sameB (keyV (a0 e swS 1)) (keyV (ofV (keyV (a0 e swS 1))))) true ∧ emit (sameB (keyV (subV (a0 e swS 1) (ofV (keyV (a0 e swS 1))))) zeroK) true ∧ Value.bool true = .bool true) := by kernel_rfl
theorem u_back (m : Int) {f g : Nat → Int} (hf : isE f) (hg : isE g) : uA (maskI m) (vE f) (vE g) = vE f ∧ uB (maskI m) (vE f) (vE g) = vE g := by
  have bf := u64_vE hf
  have bg := u64_vE hg
  have nf : nrm (vE f) = vE f := rfl
  have ng : nrm (vE g) = vE g := rfl
  unfold uA uB
  rcases (by omega : m % 2 = 0 ∨ m % 2 = 1) with h | h
  · rw [swA_even h bf, swB_even h bg, nf, ng, swA_even h bf, swB_even h bg]
    exact ⟨nf, ng⟩
  · rw [swA_odd h bg, swB_odd h bf, nf, ng, swA_odd h bf, swB_odd h bg]
    exact ⟨nf, ng⟩
theorem l17_ctr (b : Int) (f0 f1 : Nat → Int) (hf0 : isE f0) (hf1 : isE f1) : ∀ q, Ctr Try.prog 17 (mkA swS (mkE [fun _ => b, f0, f1] []) 0) q (.bool true) := by
  have eb : (mkE [fun _ => b, f0, f1] []).i 0 0 = b := rfl
  have e0 : a0 (mkE [fun _ => b, f0, f1] []) swS 1 = vE f0 := rfl
  have e1 : a0 (mkE [fun _ => b, f0, f1] []) swS 2 = vE f1 := rfl
  generalize mkE [fun _ => b, f0, f1] [] = e at eb e0 e1
  obtain ⟨u1, u2⟩ := u_back b hf0 hf1
  cases g0 : looseB (vE f0) with
  | false =>
    have hev := l17_g e
    rw [eb, e0, e1, u1, u2] at hev
    exact fo_ctr orcK1_ok Try.func17 (by kernel_rfl) ids_mk (of_eq hev ⟨emit_ne (eqV_refl _), emit_ne (eqV_refl _), emit_of g0, rfl⟩)
  | true =>
    have b0 := loose_of hf0 g0
    obtain ⟨k1, k2⟩ := of_key b0
    have hev := l17_run e
    rw [eb, e0, e1, u1, u2] at hev
    exact fo_ctr orcK1_ok Try.func17 (by kernel_rfl) ids_mk (of_eq hev ⟨emit_ne (eqV_refl _), emit_ne (eqV_refl _), emit_of g0, emit_of (same_eq b0 k2 k1.symm), emit_of (same_zero (bnd_sub b0 k2) (by rw [FV_sub b0 k2, k1]; grind)), rfl⟩)

theorem isE_of {f : Nat → Int} (h : ∀ j, j < 5 → (Lit.int .u64 (f j)).wf = true) : isE f := fun j hj => by
  obtain ⟨h1, h2⟩ := range_of (h j hj)
  have e1 : IntKind.u64.min = 0 := by decide
  have e2 : IntKind.u64.max = 18446744073709551615 := by decide
  rw [e1] at h1; rw [e2] at h2
  exact ⟨h1, by omega⟩
theorem u32_of {n : Int} (h : (Lit.int .u32 n).wf = true) : 0 ≤ n ∧ n < 4294967296 := by
  obtain ⟨h1, h2⟩ := range_of h
  have e1 : IntKind.u32.min = 0 := by decide
  have e2 : IntKind.u32.max = 4294967295 := by decide
  rw [e1] at h1; rw [e2] at h2
  exact ⟨h1, by omega⟩
theorem isK_of {f : Nat → Int} (h : ∀ j, j < 32 → (Lit.int .u8 (f j)).wf = true) : isK f := fun j hj => isB_of (h j hj)

set_option maxRecDepth 100000 in
theorem invSwaps_lifted (os : Os) (started : os.Started) (H : Type) (enc : TypeId × Value → H) :
    ReturnsInHanded {} Try.checked os 17 .any (Rows.invSwapsSpec.pre6 enc Try.prog Try.f17 Rows.invSwapsRow.domain false) (Rows.invSwapsSpec.post enc Try.prog Try.f17 false true false false) := by
  refine returnsInHanded_of_change (C := Try.checked) own started (by kernel_rfl) Try.func17
    (ChangeSpec.witness6 (enc := enc) (C := Try.checked) false ⟨#[], #[.int .i64 0, arrOf .u64 5 (fun _ => 0), arrOf .u64 5 (fun _ => 0)], []⟩ 8 (by kernel_rfl) (by kernel_rfl) (by kernel_rfl) (by kernel_rfl)) ?_
  intro W base args ds gs before hval0 hW hcnd _
  have hval : ∀ (j : Nat) t v, Try.f17.params[j]? = some t → args[j]? = some v → Value.okWide Try.prog W .any base t v := hval0
  have hW' := hW
  obtain ⟨p, q, hA0, hV, rfl, hfz, hnd⟩ := hW
  have hA : DataW.TrodAll enc Try.prog W 0 (fun _ => true) true Try.f17.params.toList args.toList ds p := hA0
  rw [Try.params17] at hA hval
  obtain ⟨v0, v1, v2, d0, d1, d2, p0, p1, p2, rfl, rfl, rfl, h0, h1, h2⟩ := trodAll_three hA
  obtain ⟨rfl, rfl⟩ := trodVars_none hV
  obtain ⟨x0, rfl, rfl, rfl, w0⟩ := open_int Try.underlying3 (hval 0 3 v0 rfl rfl) h0
  obtain ⟨x1, rfl, w1⟩ := open_arr Try.underlying36 Try.underlying34 (by kernel_rfl) (by kernel_rfl) (hval 1 36 v1 rfl rfl) h1
  obtain ⟨x2, rfl, w2⟩ := open_arr Try.underlying36 Try.underlying34 (by kernel_rfl) (by kernel_rfl) (hval 2 36 v2 rfl rfl) h2
  refine (plain_calls (l17_ctr x0 x1 x2 (isE_of w1) (isE_of w2)) W).mono fun e W' ⟨he, hb⟩ => ?_
  exact ⟨_, he, law_post hW' hb rfl (by kernel_rfl) (reads_of (by kernel_rfl)) ⟨rfl, rfl, rfl⟩⟩

theorem invSwaps_closed : joinedFacts Try.prog 17 Try.f17 Rows.invSwapsSpec Rows.invSwapsRow = true := by
  refine (joinedFacts.eq_1 ..).trans ?_
  rw [enters_ok, no_finals, make_is]
  kernel_rfl

theorem invSwaps_holds : Rows.InvSwapsSaid :=
  OpenClaim.holds_of_wide 17 Try.f17 rfl rfl rfl rfl rfl rfl rfl ⟨rfl, rfl, rfl, rfl, rfl⟩ rfl rfl rfl rfl rfl (by kernel_rfl) Try.func17 invSwaps_closed
    (of_decide_eq_true (by kernel_rfl)) (by unfold Func.isWrapper; rw [if_neg (by decide +kernel)]; exact ⟨rfl, rfl⟩)
    (fun os started H enc _ => invSwaps_lifted os started H enc)

end Go.Proofs.Ythgefjgbkhkmgaa
