/-
  The law CtCompares, walked, and its row.
-/
import Derived.Test.YthgefjgbkhkmgaaSame
import Derived.Test.YthgefjgbkhkmgaaRow
import Derived.Test.YthgefjgbkhkmgaaHead
namespace Go.Proofs.Ythgefjgbkhkmgaa
open Go Go.ChangeShapes Go.WideShapes Go.ChangeAt Go.RowKit Ev
attribute [local irreducible] evC evBody

def compS : List Sh := [.str, .str, .arr .u8 32, .arr .u8 32]
theorem l4_long (e : Env) : evBody tab orcZ [(13, .b true)] [] [] 1000 Try.f4 (bodyOf Try.f4) (mkA compS e 0) [] 0 [] (fun r => r = .bool true) =
    (emit (decide (((e.s 0).size : Int) > 4000)) true ∧ Value.bool true = .bool true) := by kernel_rfl
theorem l4_long' (e : Env) : evBody tab orcZ [(13, .b false), (17, .b true)] [] [] 1000 Try.f4 (bodyOf Try.f4) (mkA compS e 0) [] 0 [] (fun r => r = .bool true) =
    (emit (decide (((e.s 0).size : Int) > 4000)) false ∧ emit (decide (((e.s 1).size : Int) > 4000)) true ∧ Value.bool true = .bool true) := by kernel_rfl
theorem l4_run (e : Env) : evBody tab orcZ [(13, .b false), (17, .b false), (21, .ok), (25, .b true), (29, .b true), (38, .b true), (43, .b true), (51, .b true), (55, .b true)] [] [] 1000 Try.f4 (bodyOf Try.f4) (mkA compS e 0) [] 0 [] (fun r => r = .bool true) =
    (emit (decide (((e.s 0).size : Int) > 4000)) false ∧ emit (decide (((e.s 1).size : Int) > 4000)) false ∧
     Nat.ble (e.s 0).size 1099511627776 = true ∧ emit (txtEq (e.s 0) (e.s 1) == ((e.s 0).toList == (e.s 1).toList)) true ∧
     (Nat.ble (e.s 0).size 1099511627776 && (txtEq (e.s 0) (e.s 0) == true)) = true ∧
     emit (sameB (a0 e compS 2) (a0 e compS 3) == eqV (a0 e compS 2) (a0 e compS 3)) true ∧ emit (sameB (a0 e compS 2) (a0 e compS 2)) true ∧
     emit (sameB (a0 e compS 2) zeroK == eqV (a0 e compS 2) zeroK) true ∧ emit (sameB zeroK zeroK) true ∧ Value.bool true = .bool true) := by kernel_rfl

theorem of_eq {p q : Prop} (h : p = q) (hq : q) : p := h.symm ▸ hq

theorem l4_ctr (a b : ByteArray) (f g : Nat → Int) (hf : ∀ j, j < 32 → isB (f j)) (hg : ∀ j, j < 32 → isB (g j)) :
    ∀ h, Ctr Try.prog 4 (mkA compS (mkE [f, f, f, g] [a, b]) 0) h (.bool true) := by
  have ha : (mkE [f, f, f, g] [a, b]).s 0 = a := rfl
  have hb : (mkE [f, f, f, g] [a, b]).s 1 = b := rfl
  have h2 : a0 (mkE [f, f, f, g] [a, b]) compS 2 = vK f := rfl
  have h3 : a0 (mkE [f, f, f, g] [a, b]) compS 3 = vK g := rfl
  generalize mkE [f, f, f, g] [a, b] = e at ha hb h2 h3
  have big : ∀ x : ByteArray, 4000 < x.size → emit (decide ((x.size : Int) > 4000)) true := fun x h => emit_of (decide_eq_true (by omega))
  have small : ∀ x : ByteArray, x.size ≤ 4000 → emit (decide ((x.size : Int) > 4000)) false := fun x h => emit_of (decide_eq_false (by omega))
  rcases Nat.lt_or_ge 4000 a.size with h1 | h1
  · have hev := l4_long e
    rw [ha] at hev
    exact fo_ctr orcZ_ok Try.func4 (by kernel_rfl) ids_mk (of_eq hev ⟨big a h1, rfl⟩)
  · rcases Nat.lt_or_ge 4000 b.size with h1' | h1'
    · have hev := l4_long' e
      rw [ha, hb] at hev
      exact fo_ctr orcZ_ok Try.func4 (by kernel_rfl) ids_mk (of_eq hev ⟨small a h1, big b h1', rfl⟩)
    · have hev := l4_run e
      rw [ha, hb, h2, h3] at hev
      have hz : ∀ j, j < 32 → isB ((fun _ => 0 : Nat → Int) j) := fun j _ => ⟨Int.le_refl 0, by show (0 : Int) < 256; decide⟩
      have hs : Nat.ble a.size 1099511627776 = true := Nat.ble_eq_true_of_le (by omega)
      have q1 : (txtEq a b == (a.toList == b.toList)) = true := by rw [txtEq_list]; simp
      have q2 : (Nat.ble a.size 1099511627776 && (txtEq a a == true)) = true := by rw [hs, txtEq_refl]; rfl
      have q3 : (sameB (vK f) (vK g) == eqV (vK f) (vK g)) = true := by rw [sameB_eq hf hg]; simp
      have q4 : sameB (vK f) (vK f) = true := by rw [sameB_eq hf hf, eqV_refl]
      have q5 : (sameB (vK f) zeroK == eqV (vK f) zeroK) = true := by rw [zeroK, sameB_eq hf hz]; simp
      have q6 : sameB zeroK zeroK = true := by rw [zeroK, sameB_eq hz hz, eqV_refl]
      exact fo_ctr orcZ_ok Try.func4 (by kernel_rfl) ids_mk (of_eq hev ⟨small a h1, small b h1', hs, emit_of q1, q2, emit_of q3, emit_of q4, emit_of q5, emit_of q6, rfl⟩)

set_option maxRecDepth 100000 in
theorem ctCompares_lifted (os : Os) (started : os.Started) (H : Type) (enc : TypeId × Value → H) :
    ReturnsInHanded {} Try.checked os 4 .any (Rows.ctComparesSpec.pre6 enc Try.prog Try.f4 Rows.ctComparesRow.domain false) (Rows.ctComparesSpec.post enc Try.prog Try.f4 false true false false) := by
  refine returnsInHanded_of_change (C := Try.checked) own started (by kernel_rfl) Try.func4
    (ChangeSpec.witness6 (enc := enc) (C := Try.checked) false ⟨#[], #[.string ByteArray.empty, .string ByteArray.empty, arrOf .u8 32 (fun _ => 0), arrOf .u8 32 (fun _ => 0)], []⟩ 8 (by kernel_rfl) (by kernel_rfl) (by kernel_rfl) (by kernel_rfl)) ?_
  intro W base args ds gs before hval0 hW hcnd _
  have hval : ∀ (j : Nat) t v, Try.f4.params[j]? = some t → args[j]? = some v → Value.okWide Try.prog W .any base t v := hval0
  have hW' := hW
  obtain ⟨p, q, hA0, hV, rfl, hfz, hnd⟩ := hW
  have hA : DataW.TrodAll enc Try.prog W 0 (fun _ => true) true Try.f4.params.toList args.toList ds p := hA0
  rw [Try.params4] at hA hval
  obtain ⟨v0, v1, v2, v3, d0, d1, d2, d3, p0, p1, p2, p3, rfl, rfl, rfl, h0, h1, h2, h3⟩ := trodAll_four hA
  obtain ⟨rfl, rfl⟩ := trodVars_none hV
  obtain ⟨x0, rfl, rfl, rfl, w0⟩ := Go.ChangeMaps.open_string Try.underlying9 (hval 0 9 v0 rfl rfl) h0
  obtain ⟨x1, rfl, rfl, rfl, w1⟩ := Go.ChangeMaps.open_string Try.underlying9 (hval 1 9 v1 rfl rfl) h1
  obtain ⟨x2, rfl, w2⟩ := open_arr Try.underlying23 Try.underlying5 (by kernel_rfl) (by kernel_rfl) (hval 2 23 v2 rfl rfl) h2
  obtain ⟨x3, rfl, w3⟩ := open_arr Try.underlying23 Try.underlying5 (by kernel_rfl) (by kernel_rfl) (hval 3 23 v3 rfl rfl) h3
  refine (plain_calls (l4_ctr x0 x1 x2 x3 (fun j hj => isB_of (w2 j hj)) (fun j hj => isB_of (w3 j hj))) W).mono fun e W' ⟨he, hb⟩ => ?_
  exact ⟨_, he, law_post hW' hb rfl (by kernel_rfl) (reads_of (by kernel_rfl)) ⟨rfl, rfl, rfl⟩⟩

theorem ctCompares_closed : joinedFacts Try.prog 4 Try.f4 Rows.ctComparesSpec Rows.ctComparesRow = true := by
  refine (joinedFacts.eq_1 ..).trans ?_
  rw [enters_ok, no_finals, make_is]
  kernel_rfl

theorem ctCompares_holds : Rows.CtComparesSaid :=
  OpenClaim.holds_of_wide 4 Try.f4 rfl rfl rfl rfl rfl rfl rfl ⟨rfl, rfl, rfl, rfl, rfl⟩ rfl rfl rfl rfl rfl (by kernel_rfl) Try.func4 ctCompares_closed
    (of_decide_eq_true (by kernel_rfl)) (by unfold Func.isWrapper; rw [if_neg (by decide +kernel)]; exact ⟨rfl, rfl⟩)
    (fun os started H enc _ => ctCompares_lifted os started H enc)

end Go.Proofs.Ythgefjgbkhkmgaa
