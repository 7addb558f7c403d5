/-
  The law DhAgrees, walked, and its row.
-/
import Derived.Test.YthgefjgbkhkmgaaDhW
import Derived.Test.YthgefjgbkhkmgaaRow
import Derived.Test.YthgefjgbkhkmgaaHead
namespace Go.Proofs.Ythgefjgbkhkmgaa
open Go Go.ChangeShapes Go.WideShapes Go.ChangeAt Go.RowKit Ev
attribute [local irreducible] evC evBody

def fl31 (f : Nat → Int) : Nat → Int := fun j => match j with
  | 31 => bxor (f 31) 128
  | j => f j
def k3S : List Sh := [.arr .u8 32, .arr .u8 32, .arr .u8 32]
def l25_R (j k p : Nat → Int) : Prop :=
    emit (shOk (vK j) (baseV (vK k))) true ∧ emit (shOk (vK k) (baseV (vK j))) true ∧
    emit (eqV (shK (vK j) (baseV (vK k))) (shK (vK k) (baseV (vK j)))) true ∧
    emit (!(eqV (shK (vK j) (baseV (vK k))) zeroK)) true ∧
    emit (eqV (shK (vK j) (vK p)) (shK (clV (vK j)) (vK (fl31 p)))) true ∧
    emit (shOk (vK j) (vK p) == shOk (clV (vK j)) (vK (fl31 p))) true ∧
    emit (eqV (clV (clV (vK j))) (clV (vK j))) true ∧ Value.bool true = .bool true
theorem l25_run (e : Env) : evBody tab orcD3 [(24, .b true), (31, .b true), (57, .b true), (62, .b true), (67, .b true), (72, .b true), (80, .b true)] [] [] 1000 Try.f25 (bodyOf Try.f25) (mkA k3S e 0) [] 0 [] (fun r => r = .bool true) =
    l25_R (e.i 0) (e.i 1) (e.i 2) := by kernel_rfl
theorem sh_base {k b : Nat → Int} (hk : isK k) (hb : isK b) : shK (vK k) (baseV (vK b)) = vK (digN (Sap.lad 256 (cN k) (Sap.lad 256 (cN b) Sap.nine)).val) ∧ shOk (vK k) (baseV (vK b)) = true := by
  rw [base_val hb, sh_val hk (isK_dig _), shOk_val hk (isK_dig _), numV_dig]
  refine ⟨rfl, ?_⟩
  rw [decide_eq_false (Sap.lad_base2 (by decide) (cN_lt hk) (cN_lt hb) (cN_ell hk) (cN_ell hb))]
  rfl
theorem sh_dig {k : Nat → Int} (hk : isK k) (v : Sap.F) : shK (vK k) (vK (digN v.val)) = vK (digN (Sap.lad 256 (cN k) v).val) := by
  rw [sh_val hk (isK_dig _), numV_dig]
theorem com {j k : Nat → Int} (hj : isK j) (hk : isK k) (x : Sap.F) : Sap.lad 256 (cN j) (Sap.lad 256 (cN k) x) = Sap.lad 256 (cN k) (Sap.lad 256 (cN j) x) := Sap.lad_comm (by decide) (cN_lt hj) (cN_lt hk) x
theorem bxor_128 : ∀ b : Fin 256, bxor (b.val : Int) 128 % 128 = (b.val : Int) % 128 ∧ 0 ≤ bxor (b.val : Int) 128 ∧ bxor (b.val : Int) 128 < 256 := by decide +kernel
theorem isK_fl {f : Nat → Int} (hf : isK f) : isK (fl31 f) := by
  intro j hj
  unfold fl31
  split
  · obtain ⟨b, hb⟩ := fin_of (hf 31 (by decide))
    rw [hb]
    exact (bxor_128 b).2
  · exact hf j hj
theorem numV_fl {f : Nat → Int} (hf : isK f) : numV (fl31 f) = numV f := by
  unfold numV
  have h1 := hn_add f 31 1 0
  have h2 := hn_add (fl31 f) 31 1 0
  have hc : hn (fl31 f) 0 31 = hn f 0 31 := hn_congr fun j _ hj => by
    unfold fl31
    split
    · omega
    · rfl
  rw [hc] at h2
  have e1 : hn f (0 + 31) 1 = f 31 := by simp [hn]
  have e2 : hn (fl31 f) (0 + 31) 1 = bxor (f 31) 128 := by simp [hn, fl31]
  rw [e1] at h1
  rw [e2] at h2
  obtain ⟨b, hb⟩ := fin_of (hf 31 (by decide))
  have q := bxor_128 b
  rw [← hb] at q
  have e31 : (256 : Int) ^ 31 = 452312848583266388373324160190187140051835877600158453279131187530910662656 := by decide
  rw [e31] at h1 h2
  have h1' : numK f = hn f 0 31 + 452312848583266388373324160190187140051835877600158453279131187530910662656 * f 31 := h1
  have h2' : numK (fl31 f) = hn f 0 31 + 452312848583266388373324160190187140051835877600158453279131187530910662656 * bxor (f 31) 128 := h2
  rw [h1', h2']
  congr 1
  generalize bxor (f 31) 128 = x at *
  generalize f 31 = y at *
  generalize hn f 0 31 = z at *
  clear h1 h2 h1' h2' hc e1 e2
  omega
theorem l25_plain {j k p : Nat → Int} (hj : isK j) (hk : isK k) (hp : isK p) : l25_R j k p := by
  obtain ⟨a1, a2⟩ := sh_base hj hk
  obtain ⟨b1, b2⟩ := sh_base hk hj
  have hcc : cN (clF j) = cN j := by
    have h := cl_cl hj
    have : numK (clF (clF j)) = numK (clF j) := eqV_num (by rw [h, eqV_refl])
    unfold cN
    rw [this]
  have hcl := isK_cl hj
  have hfl := isK_fl hp
  refine ⟨emit_of a2, emit_of b2, emit_of ?_, emit_of ?_, emit_of ?_, emit_of ?_, emit_of ?_, rfl⟩
  · rw [a1, b1, com hj hk, eqV_refl]
  · rw [a1, zeroK_is, ← keyN_eq, eqV_keyN, decide_eq_false (Sap.lad_base2 (by decide) (cN_lt hj) (cN_lt hk) (cN_ell hj) (cN_ell hk))]
    rfl
  · rw [sh_val hj hp, clV_vK, sh_val hcl hfl, hcc, numV_fl hp, eqV_refl]
  · rw [clV_vK, shOk_val hj hp, shOk_val hcl hfl, hcc, numV_fl hp]
    simp
  · rw [clV_vK, clV_vK, cl_cl hj, eqV_refl]
theorem l25_ctr (j k p : Nat → Int) (hj : isK j) (hk : isK k) (hp : isK p) : ∀ q, Ctr Try.prog 25 (mkA k3S (mkE [j, k, p] []) 0) q (.bool true) := by
  have e0 : (mkE [j, k, p] []).i 0 = j := rfl
  have e1 : (mkE [j, k, p] []).i 1 = k := rfl
  have e2 : (mkE [j, k, p] []).i 2 = p := rfl
  generalize mkE [j, k, p] [] = e at e0 e1 e2
  have hev := l25_run e
  rw [e0, e1, e2] at hev
  exact fo_ctr orcD3_ok Try.func25 (by kernel_rfl) ids_mk (of_eq hev (l25_plain hj hk hp))

theorem isE_of {f : Nat → Int} (h : ∀ j, j < 5 → (Lit.int .u64 (f j)).wf = true) : isE f := fun j hj => by
  obtain ⟨h1, h2⟩ := range_of (h j hj)
  have e1 : IntKind.u64.min = 0 := by decide
  have e2 : IntKind.u64.max = 18446744073709551615 := by decide
  rw [e1] at h1; rw [e2] at h2
  exact ⟨h1, by omega⟩
theorem u32_of {n : Int} (h : (Lit.int .u32 n).wf = true) : 0 ≤ n ∧ n < 4294967296 := by
  obtain ⟨h1, h2⟩ := range_of h
  have e1 : IntKind.u32.min = 0 := by decide
  have e2 : IntKind.u32.max = 4294967295 := by decide
  rw [e1] at h1; rw [e2] at h2
  exact ⟨h1, by omega⟩
theorem isK_of {f : Nat → Int} (h : ∀ j, j < 32 → (Lit.int .u8 (f j)).wf = true) : isK f := fun j hj => isB_of (h j hj)

set_option maxRecDepth 100000 in
theorem dhAgrees_lifted (os : Os) (started : os.Started) (H : Type) (enc : TypeId × Value → H) :
    ReturnsInHanded {} Try.checked os 25 .any (Rows.dhAgreesSpec.pre6 enc Try.prog Try.f25 Rows.dhAgreesRow.domain false) (Rows.dhAgreesSpec.post enc Try.prog Try.f25 false true false false) := by
  refine returnsInHanded_of_change (C := Try.checked) own started (by kernel_rfl) Try.func25
    (ChangeSpec.witness6 (enc := enc) (C := Try.checked) false ⟨#[], #[arrOf .u8 32 (fun _ => 0), arrOf .u8 32 (fun _ => 0), arrOf .u8 32 (fun _ => 0)], []⟩ 8 (by kernel_rfl) (by kernel_rfl) (by kernel_rfl) (by kernel_rfl)) ?_
  intro W base args ds gs before hval0 hW hcnd _
  have hval : ∀ (j : Nat) t v, Try.f25.params[j]? = some t → args[j]? = some v → Value.okWide Try.prog W .any base t v := hval0
  have hW' := hW
  obtain ⟨p, q, hA0, hV, rfl, hfz, hnd⟩ := hW
  have hA : DataW.TrodAll enc Try.prog W 0 (fun _ => true) true Try.f25.params.toList args.toList ds p := hA0
  rw [Try.params25] at hA hval
  obtain ⟨v0, v1, v2, d0, d1, d2, p0, p1, p2, rfl, rfl, rfl, h0, h1, h2⟩ := trodAll_three hA
  obtain ⟨rfl, rfl⟩ := trodVars_none hV
  obtain ⟨x0, rfl, w0⟩ := open_arr Try.underlying23 Try.underlying5 (by kernel_rfl) (by kernel_rfl) (hval 0 23 v0 rfl rfl) h0
  obtain ⟨x1, rfl, w1⟩ := open_arr Try.underlying23 Try.underlying5 (by kernel_rfl) (by kernel_rfl) (hval 1 23 v1 rfl rfl) h1
  obtain ⟨x2, rfl, w2⟩ := open_arr Try.underlying23 Try.underlying5 (by kernel_rfl) (by kernel_rfl) (hval 2 23 v2 rfl rfl) h2
  refine (plain_calls (l25_ctr x0 x1 x2 (isK_of w0) (isK_of w1) (isK_of w2)) W).mono fun e W' ⟨he, hb⟩ => ?_
  exact ⟨_, he, law_post hW' hb rfl (by kernel_rfl) (reads_of (by kernel_rfl)) ⟨rfl, rfl, rfl⟩⟩

theorem dhAgrees_closed : joinedFacts Try.prog 25 Try.f25 Rows.dhAgreesSpec Rows.dhAgreesRow = true := by
  refine (joinedFacts.eq_1 ..).trans ?_
  rw [enters_ok, no_finals, make_is]
  kernel_rfl

theorem dhAgrees_holds : Rows.DhAgreesSaid :=
  OpenClaim.holds_of_wide 25 Try.f25 rfl rfl rfl rfl rfl rfl rfl ⟨rfl, rfl, rfl, rfl, rfl⟩ rfl rfl rfl rfl rfl (by kernel_rfl) Try.func25 dhAgrees_closed
    (of_decide_eq_true (by kernel_rfl)) (by unfold Func.isWrapper; rw [if_neg (by decide +kernel)]; exact ⟨rfl, rfl⟩)
    (fun os started H enc _ => dhAgrees_lifted os started H enc)

end Go.Proofs.Ythgefjgbkhkmgaa
