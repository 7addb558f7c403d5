/-
  The law LadderTwice, walked, and its row.
-/
import Derived.Test.YthgefjgbkhkmgaaAw5
import Derived.Test.YthgefjgbkhkmgaaRow
import Derived.Test.YthgefjgbkhkmgaaHead
namespace Go.Proofs.Ythgefjgbkhkmgaa
open Go Go.ChangeShapes Go.WideShapes Go.ChangeAt Go.RowKit Ev
attribute [local irreducible] evC evBody

def twS : List Sh := [.int .u32, .arr .u64 5]
def l8K (n : Int) (x : Value) : Value := ladK (vK (k8 n)) x
theorem l19_g (e : Env) : evBody tab orcN2 [(10, .b false)] [] [] 1000 Try.f19 (bodyOf Try.f19) (mkA twS e 0) [] 0 [] (fun r => r = .bool true) =
    (emit (looseB (a0 e twS 1)) false ∧ Value.bool true = .bool true) := by kernel_rfl
def l19_R (n : Int) (x : Value) : Prop :=
    emit (looseB x) true ∧
    emit (sameB (keyV (l8K (IntKind.u64.wrap (2 * IntKind.u64.wrap n)) x)) (keyV (l8K 2 (l8K (IntKind.u64.wrap n) x)))) true ∧
    emit (sameB (keyV (l8K (IntKind.u64.wrap (6 * IntKind.u64.wrap n)) x)) (keyV (l8K 3 (l8K (IntKind.u64.wrap (2 * IntKind.u64.wrap n)) x)))) true ∧ Value.bool true = .bool true
theorem l19_run (e : Env) : evBody tab orcN2 [(10, .b true), (29, .b true), (42, .b true)] [] [] 1000 Try.f19 (bodyOf Try.f19) (mkA twS e 0) [] 0 [] (fun r => r = .bool true) =
    l19_R (e.i 0 0) (a0 e twS 1) := by kernel_rfl
theorem l8K_val {x : Value} (b_x : bnd x LL) {n : Int} (h0 : 0 ≤ n) (h1 : n < 18446744073709551616) : bnd (l8K n x) LL ∧ FV (l8K n x) = Sap.lad 256 n.toNat (FV x) := by
  obtain ⟨k1, k2⟩ := k8_val h0 h1
  obtain ⟨p1, p2⟩ := ladK_val b_x k1
  exact ⟨p1, by rw [l8K, p2, k2]⟩
theorem small_256 {n : Nat} (h : n < 18446744073709551616) : n < 2 ^ 256 := Nat.lt_trans h (by decide)
theorem l19_plain {n : Int} {x : Value} (b_x : bnd x LL) (h_x : looseB x = true) (hn : 0 ≤ n ∧ n < 4294967296) : l19_R n x := by
  unfold l19_R
  rw [wrap_u32 hn.1 hn.2, show IntKind.u64.wrap (2 * n) = 2 * n by rw [wrap_u64]; omega, show IntKind.u64.wrap (6 * n) = 6 * n by rw [wrap_u64]; omega]
  obtain ⟨a1, a2⟩ := l8K_val b_x (n := 2 * n) (by omega) (by omega)
  obtain ⟨b1, b2⟩ := l8K_val b_x (n := n) (by omega) (by omega)
  obtain ⟨c1, c2⟩ := l8K_val b1 (n := 2) (by omega) (by omega)
  obtain ⟨d1, d2⟩ := l8K_val b_x (n := 6 * n) (by omega) (by omega)
  obtain ⟨e1, e2⟩ := l8K_val a1 (n := 3) (by omega) (by omega)
  refine ⟨emit_of h_x, emit_of (same_eq a1 c1 ?_), emit_of (same_eq d1 e1 ?_), rfl⟩
  · rw [a2, c2, b2, Sap.lad_lad (r := 256) (by decide) (by decide) (by decide) (small_256 (by omega)) (small_256 (by omega)) (small_256 (by show 2 * n.toNat < _; omega))]
    congr 1
    show (2 * n).toNat = 2 * n.toNat
    omega
  · rw [d2, e2, a2, Sap.lad_lad (r := 256) (by decide) (by decide) (by decide) (small_256 (by omega)) (small_256 (by omega)) (small_256 (by show 3 * (2 * n).toNat < _; omega))]
    congr 1
    show (6 * n).toNat = 3 * (2 * n).toNat
    omega
theorem l19_ctr (n : Int) (f : Nat → Int) (hn : 0 ≤ n ∧ n < 4294967296) (hf : isE f) : ∀ q, Ctr Try.prog 19 (mkA twS (mkE [fun _ => n, f] []) 0) q (.bool true) := by
  have en : (mkE [fun _ => n, f] []).i 0 0 = n := rfl
  have e1 : a0 (mkE [fun _ => n, f] []) twS 1 = vE f := rfl
  generalize mkE [fun _ => n, f] [] = e at en e1
  cases g0 : looseB (vE f) with
  | false => exact fo_ctr orcN2_ok Try.func19 (by kernel_rfl) ids_mk (of_eq (l19_g e) ⟨emit_of (by rw [e1]; exact g0), rfl⟩)
  | true =>
    have hev := l19_run e
    rw [en, e1] at hev
    exact fo_ctr orcN2_ok Try.func19 (by kernel_rfl) ids_mk (of_eq hev (l19_plain (loose_of hf g0) g0 hn))

theorem isE_of {f : Nat → Int} (h : ∀ j, j < 5 → (Lit.int .u64 (f j)).wf = true) : isE f := fun j hj => by
  obtain ⟨h1, h2⟩ := range_of (h j hj)
  have e1 : IntKind.u64.min = 0 := by decide
  have e2 : IntKind.u64.max = 18446744073709551615 := by decide
  rw [e1] at h1; rw [e2] at h2
  exact ⟨h1, by omega⟩
theorem u32_of {n : Int} (h : (Lit.int .u32 n).wf = true) : 0 ≤ n ∧ n < 4294967296 := by
  obtain ⟨h1, h2⟩ := range_of h
  have e1 : IntKind.u32.min = 0 := by decide
  have e2 : IntKind.u32.max = 4294967295 := by decide
  rw [e1] at h1; rw [e2] at h2
  exact ⟨h1, by omega⟩
theorem isK_of {f : Nat → Int} (h : ∀ j, j < 32 → (Lit.int .u8 (f j)).wf = true) : isK f := fun j hj => isB_of (h j hj)

set_option maxRecDepth 100000 in
theorem ladderTwice_lifted (os : Os) (started : os.Started) (H : Type) (enc : TypeId × Value → H) :
    ReturnsInHanded {} Try.checked os 19 .any (Rows.ladderTwiceSpec.pre6 enc Try.prog Try.f19 Rows.ladderTwiceRow.domain false) (Rows.ladderTwiceSpec.post enc Try.prog Try.f19 false true false false) := by
  refine returnsInHanded_of_change (C := Try.checked) own started (by kernel_rfl) Try.func19
    (ChangeSpec.witness6 (enc := enc) (C := Try.checked) false ⟨#[], #[.int .u32 0, arrOf .u64 5 (fun _ => 0)], []⟩ 8 (by kernel_rfl) (by kernel_rfl) (by kernel_rfl) (by kernel_rfl)) ?_
  intro W base args ds gs before hval0 hW hcnd _
  have hval : ∀ (j : Nat) t v, Try.f19.params[j]? = some t → args[j]? = some v → Value.okWide Try.prog W .any base t v := hval0
  have hW' := hW
  obtain ⟨p, q, hA0, hV, rfl, hfz, hnd⟩ := hW
  have hA : DataW.TrodAll enc Try.prog W 0 (fun _ => true) true Try.f19.params.toList args.toList ds p := hA0
  rw [Try.params19] at hA hval
  obtain ⟨v0, v1, d0, d1, p0, p1, rfl, rfl, rfl, h0, h1⟩ := trodAll_two hA
  obtain ⟨rfl, rfl⟩ := trodVars_none hV
  obtain ⟨x0, rfl, rfl, rfl, w0⟩ := open_int Try.underlying41 (hval 0 41 v0 rfl rfl) h0
  obtain ⟨x1, rfl, w1⟩ := open_arr Try.underlying36 Try.underlying34 (by kernel_rfl) (by kernel_rfl) (hval 1 36 v1 rfl rfl) h1
  refine (plain_calls (l19_ctr x0 x1 (u32_of w0) (isE_of w1)) W).mono fun e W' ⟨he, hb⟩ => ?_
  exact ⟨_, he, law_post hW' hb rfl (by kernel_rfl) (reads_of (by kernel_rfl)) ⟨rfl, rfl, rfl⟩⟩

theorem ladderTwice_closed : joinedFacts Try.prog 19 Try.f19 Rows.ladderTwiceSpec Rows.ladderTwiceRow = true := by
  refine (joinedFacts.eq_1 ..).trans ?_
  rw [enters_ok, no_finals, make_is]
  kernel_rfl

theorem ladderTwice_holds : Rows.LadderTwiceSaid :=
  OpenClaim.holds_of_wide 19 Try.f19 rfl rfl rfl rfl rfl rfl rfl ⟨rfl, rfl, rfl, rfl, rfl⟩ rfl rfl rfl rfl rfl (by kernel_rfl) Try.func19 ladderTwice_closed
    (of_decide_eq_true (by kernel_rfl)) (by unfold Func.isWrapper; rw [if_neg (by decide +kernel)]; exact ⟨rfl, rfl⟩)
    (fun os started H enc _ => ladderTwice_lifted os started H enc)

end Go.Proofs.Ythgefjgbkhkmgaa
