/-
  The law InvPowers, walked, and its row.
-/
import Derived.Test.YthgefjgbkhkmgaaAw4
import Derived.Test.YthgefjgbkhkmgaaRow
import Derived.Test.YthgefjgbkhkmgaaHead
namespace Go.Proofs.Ythgefjgbkhkmgaa
open Go Go.ChangeShapes Go.WideShapes Go.ChangeAt Go.RowKit Ev
attribute [local irreducible] evC evBody

def powsS : List Sh := [.arr .u64 5, .int .u32, .int .u32]
def pwV (a : Value) (n : Int) : Value := nrm (powV a (vK (k8 n)))
theorem l15_g (e : Env) : evBody tab orcK2 [(14, .b false)] [] [] 1000 Try.f15 (bodyOf Try.f15) (mkA powsS e 0) [] 0 [] (fun r => r = .bool true) =
    (emit (looseB (a0 e powsS 0)) false ∧ Value.bool true = .bool true) := by kernel_rfl
def l15_R (a : Value) (m n : Int) : Prop :=
    emit (looseB a) true ∧
    emit (sameB (keyV (pwV a (IntKind.u64.wrap (IntKind.u64.wrap m + IntKind.u64.wrap n)))) (keyV (mulV (pwV a (IntKind.u64.wrap m)) (pwV a (IntKind.u64.wrap n))))) true ∧
    emit (sameB (keyV (nrm (powV a (vK (pK 237))))) (keyV a)) true ∧
    emit (sameB (keyV (nrm (powV a zeroK))) (keyV one)) true ∧ Value.bool true = .bool true
theorem l15_run (e : Env) : evBody tab orcK2 [(14, .b true), (47, .b true), (53, .b true), (60, .b true)] [] [] 1000 Try.f15 (bodyOf Try.f15) (mkA powsS e 0) [] 0 [] (fun r => r = .bool true) =
    l15_R (a0 e powsS 0) (e.i 1 0) (e.i 2 0) := by kernel_rfl
theorem pw_val {a : Value} (b_a : bnd a LL) {n : Int} (h0 : 0 ≤ n) (h1 : n < 18446744073709551616) : bnd (pwV a n) LL ∧ FV (pwV a n) = Sap.pw (FV a) n.toNat := by
  obtain ⟨k1, k2⟩ := k8_val h0 h1
  obtain ⟨p1, p2⟩ := pow_val b_a k1
  exact ⟨bnd_nrm p1, by rw [pwV, FV_nrm, p2, k2]⟩
theorem isK_zero : isK (fun _ => 0) := fun _ _ => ⟨Int.le_refl 0, by show (0 : Int) < 256; decide⟩
theorem l15_plain {a : Value} {m n : Int} (b_a : bnd a LL) (h_a : looseB a = true) (hm : 0 ≤ m ∧ m < 4294967296) (hn : 0 ≤ n ∧ n < 4294967296) : l15_R a m n := by
  unfold l15_R
  rw [wrap_u32 hm.1 hm.2, wrap_u32 hn.1 hn.2, show IntKind.u64.wrap (m + n) = m + n by rw [wrap_u64]; omega]
  obtain ⟨s1, s2⟩ := pw_val b_a (n := m + n) (by omega) (by omega)
  obtain ⟨m1, m2⟩ := pw_val b_a (n := m) (by omega) (by omega)
  obtain ⟨n1, n2⟩ := pw_val b_a (n := n) (by omega) (by omega)
  have t := mul_FV m1 n1
  obtain ⟨p1, p2⟩ := pow_val b_a (isK_pK (b := 237) ⟨by decide, by decide⟩)
  obtain ⟨z1, z2⟩ := pow_val b_a isK_zero
  have ep : (numK (pK 237)).toNat = Sap.P := by decide +kernel
  have ez : (numK (fun _ => 0)).toNat = 0 := by decide +kernel
  refine ⟨emit_of h_a, emit_of (same_eq s1 (bnd_LL t.2) ?_), emit_of (same_eq (bnd_nrm p1) b_a ?_), emit_of (same_eq (bnd_nrm z1) one_val.1 ?_), rfl⟩
  · rw [s2, t.1, m2, n2, ← Sap.pw_add]
    congr 1
    omega
  · rw [FV_nrm, p2, ep, Sap.fermatP]
  · show FV (nrm (powV a (vK fun _ => 0))) = _
    rw [FV_nrm, z2, ez, Sap.pw_zero, one_val.2]
theorem l15_ctr (f0 : Nat → Int) (m n : Int) (hf0 : isE f0) (hm : 0 ≤ m ∧ m < 4294967296) (hn : 0 ≤ n ∧ n < 4294967296) : ∀ q, Ctr Try.prog 15 (mkA powsS (mkE [f0, fun _ => m, fun _ => n] []) 0) q (.bool true) := by
  have e0 : a0 (mkE [f0, fun _ => m, fun _ => n] []) powsS 0 = vE f0 := rfl
  have em : (mkE [f0, fun _ => m, fun _ => n] []).i 1 0 = m := rfl
  have en : (mkE [f0, fun _ => m, fun _ => n] []).i 2 0 = n := rfl
  generalize mkE [f0, fun _ => m, fun _ => n] [] = e at e0 em en
  cases g0 : looseB (vE f0) with
  | false => exact fo_ctr orcK2_ok Try.func15 (by kernel_rfl) ids_mk (of_eq (l15_g e) ⟨emit_of (by rw [e0]; exact g0), rfl⟩)
  | true =>
    have hev := l15_run e
    rw [e0, em, en] at hev
    exact fo_ctr orcK2_ok Try.func15 (by kernel_rfl) ids_mk (of_eq hev (l15_plain (loose_of hf0 g0) g0 hm hn))

theorem isE_of {f : Nat → Int} (h : ∀ j, j < 5 → (Lit.int .u64 (f j)).wf = true) : isE f := fun j hj => by
  obtain ⟨h1, h2⟩ := range_of (h j hj)
  have e1 : IntKind.u64.min = 0 := by decide
  have e2 : IntKind.u64.max = 18446744073709551615 := by decide
  rw [e1] at h1; rw [e2] at h2
  exact ⟨h1, by omega⟩
theorem u32_of {n : Int} (h : (Lit.int .u32 n).wf = true) : 0 ≤ n ∧ n < 4294967296 := by
  obtain ⟨h1, h2⟩ := range_of h
  have e1 : IntKind.u32.min = 0 := by decide
  have e2 : IntKind.u32.max = 4294967295 := by decide
  rw [e1] at h1; rw [e2] at h2
  exact ⟨h1, by omega⟩
theorem isK_of {f : Nat → Int} (h : ∀ j, j < 32 → (Lit.int .u8 (f j)).wf = true) : isK f := fun j hj => isB_of (h j hj)

set_option maxRecDepth 100000 in
theorem invPowers_lifted (os : Os) (started : os.Started) (H : Type) (enc : TypeId × Value → H) :
    ReturnsInHanded {} Try.checked os 15 .any (Rows.invPowersSpec.pre6 enc Try.prog Try.f15 Rows.invPowersRow.domain false) (Rows.invPowersSpec.post enc Try.prog Try.f15 false true false false) := by
  refine returnsInHanded_of_change (C := Try.checked) own started (by kernel_rfl) Try.func15
    (ChangeSpec.witness6 (enc := enc) (C := Try.checked) false ⟨#[], #[arrOf .u64 5 (fun _ => 0), .int .u32 0, .int .u32 0], []⟩ 8 (by kernel_rfl) (by kernel_rfl) (by kernel_rfl) (by kernel_rfl)) ?_
  intro W base args ds gs before hval0 hW hcnd _
  have hval : ∀ (j : Nat) t v, Try.f15.params[j]? = some t → args[j]? = some v → Value.okWide Try.prog W .any base t v := hval0
  have hW' := hW
  obtain ⟨p, q, hA0, hV, rfl, hfz, hnd⟩ := hW
  have hA : DataW.TrodAll enc Try.prog W 0 (fun _ => true) true Try.f15.params.toList args.toList ds p := hA0
  rw [Try.params15] at hA hval
  obtain ⟨v0, v1, v2, d0, d1, d2, p0, p1, p2, rfl, rfl, rfl, h0, h1, h2⟩ := trodAll_three hA
  obtain ⟨rfl, rfl⟩ := trodVars_none hV
  obtain ⟨x0, rfl, w0⟩ := open_arr Try.underlying36 Try.underlying34 (by kernel_rfl) (by kernel_rfl) (hval 0 36 v0 rfl rfl) h0
  obtain ⟨x1, rfl, rfl, rfl, w1⟩ := open_int Try.underlying41 (hval 1 41 v1 rfl rfl) h1
  obtain ⟨x2, rfl, rfl, rfl, w2⟩ := open_int Try.underlying41 (hval 2 41 v2 rfl rfl) h2
  refine (plain_calls (l15_ctr x0 x1 x2 (isE_of w0) (u32_of w1) (u32_of w2)) W).mono fun e W' ⟨he, hb⟩ => ?_
  exact ⟨_, he, law_post hW' hb rfl (by kernel_rfl) (reads_of (by kernel_rfl)) ⟨rfl, rfl, rfl⟩⟩

theorem invPowers_closed : joinedFacts Try.prog 15 Try.f15 Rows.invPowersSpec Rows.invPowersRow = true := by
  refine (joinedFacts.eq_1 ..).trans ?_
  rw [enters_ok, no_finals, make_is]
  kernel_rfl

theorem invPowers_holds : Rows.InvPowersSaid :=
  OpenClaim.holds_of_wide 15 Try.f15 rfl rfl rfl rfl rfl rfl rfl ⟨rfl, rfl, rfl, rfl, rfl⟩ rfl rfl rfl rfl rfl (by kernel_rfl) Try.func15 invPowers_closed
    (of_decide_eq_true (by kernel_rfl)) (by unfold Func.isWrapper; rw [if_neg (by decide +kernel)]; exact ⟨rfl, rfl⟩)
    (fun os started H enc _ => invPowers_lifted os started H enc)

end Go.Proofs.Ythgefjgbkhkmgaa
