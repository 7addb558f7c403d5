/-
  The law LimbModulus, walked, and its row.
-/
import Derived.Test.YthgefjgbkhkmgaaAw2
import Derived.Test.YthgefjgbkhkmgaaRow
import Derived.Test.YthgefjgbkhkmgaaHead
namespace Go.Proofs.Ythgefjgbkhkmgaa
open Go Go.ChangeShapes Go.WideShapes Go.ChangeAt Go.RowKit Ev
attribute [local irreducible] evC evBody

def fl31 (f : Nat → Int) : Nat → Int := fun j => match j with
  | 31 => bxor (f 31) 128
  | j => f j
def kC (b : Int) : Nat → Int := fun j => match j with
  | 0 => b
  | _ => 0
def modS : List Sh := [.arr .u8 32, .int .u8]
def n32 (n : Int) : Value := smallV (.int .u32 (IntKind.u32.wrap n))
def l6_R (k : Nat → Int) (n : Int) : Prop :=
    emit (!(eqV (keyV (ofV (vK k))) (keyV (ofV (vK (fl31 k)))))) false ∧
    emit (decide (lim (keyV (ofV (vK k))) 31 > 127)) false ∧
    emit (!(eqV (keyV (ofV (vK (pK 237)))) zeroK)) false ∧
    emit (!(eqV (keyV (subV (ofV (vK (pK 237))) (n32 n))) (keyV (subV zE (n32 n))))) false ∧
    emit (eqV (keyV (ofV (vK (pK (IntKind.u8.wrap (237 + n.tmod 19)))))) (vK (kC (n.tmod 19)))) true ∧ Value.bool true = .bool true
theorem l6_run (e : Env) : evBody tab orcW1 [(22, .b false), (28, .b false), (43, .b false), (57, .b false), (71, .b true)] [] [] 1000 Try.f6 (bodyOf Try.f6) (mkA modS e 0) [] 0 [] (fun r => r = .bool true) =
    l6_R (e.i 0) (e.i 1 0) := by kernel_rfl
theorem emit_ne6 {b : Bool} (h : b = true) : emit (!b) false := by subst h; rfl
theorem fin_of {x : Int} (h : isB x) : ∃ b : Fin 256, x = (b.val : Int) := ⟨⟨x.toNat, by have := h.2; have := h.1; omega⟩, by have := h.1; show x = (x.toNat : Int); omega⟩
theorem bxor_128 : ∀ b : Fin 256, bxor (b.val : Int) 128 % 128 = (b.val : Int) % 128 ∧ 0 ≤ bxor (b.val : Int) 128 ∧ bxor (b.val : Int) 128 < 256 := by decide +kernel
theorem isK_fl {f : Nat → Int} (hf : isK f) : isK (fl31 f) := by
  intro j hj
  unfold fl31
  split
  · obtain ⟨b, hb⟩ := fin_of (hf 31 (by decide))
    rw [hb]
    exact (bxor_128 b).2
  · exact hf j hj
theorem numV_fl {f : Nat → Int} (hf : isK f) : numV (fl31 f) = numV f := by
  unfold numV
  have h1 := hn_add f 31 1 0
  have h2 := hn_add (fl31 f) 31 1 0
  have hc : hn (fl31 f) 0 31 = hn f 0 31 := hn_congr fun j _ hj => by
    unfold fl31
    split
    · omega
    · rfl
  rw [hc] at h2
  have e1 : hn f (0 + 31) 1 = f 31 := by simp [hn]
  have e2 : hn (fl31 f) (0 + 31) 1 = bxor (f 31) 128 := by simp [hn, fl31]
  rw [e1] at h1
  rw [e2] at h2
  obtain ⟨b, hb⟩ := fin_of (hf 31 (by decide))
  have q := bxor_128 b
  rw [← hb] at q
  have e31 : (256 : Int) ^ 31 = 452312848583266388373324160190187140051835877600158453279131187530910662656 := by decide
  rw [e31] at h1 h2
  have h1' : numK f = hn f 0 31 + 452312848583266388373324160190187140051835877600158453279131187530910662656 * f 31 := h1
  have h2' : numK (fl31 f) = hn f 0 31 + 452312848583266388373324160190187140051835877600158453279131187530910662656 * bxor (f 31) 128 := h2
  rw [h1', h2']
  congr 1
  generalize bxor (f 31) 128 = x at *
  generalize f 31 = y at *
  generalize hn f 0 31 = z at *
  clear h1 h2 h1' h2' hc e1 e2
  omega
theorem p19 : ∀ r : Fin 19, numV (pK (237 + (r.val : Int))) = FI (r.val : Int) := by decide +kernel
theorem k19' : ∀ r : Fin 19, eqV (keyN (FI (r.val : Int)).val) (vK (kC (r.val : Int))) = true := by decide +kernel
theorem l6_plain {k : Nat → Int} {n : Int} (hk : isK k) (hn : isB n) : l6_R k n := by
  obtain ⟨o1, o2⟩ := of_FV hk
  obtain ⟨f1, f2⟩ := of_FV (isK_fl hk)
  obtain ⟨p1, p2⟩ := of_FV (isK_pK (b := 237) ⟨by decide, by decide⟩)
  have hz : bnd zE LL := bnd_zE
  have vz : FV zE = 0 := FV_zE
  have ew : IntKind.u32.wrap n = n := by
    obtain ⟨h0, h1⟩ := hn
    simp [IntKind.wrap, IntKind.bits, IntKind.signed]
    omega
  obtain ⟨s1, s2⟩ := small_lim n hn.1 (by have := hn.2; omega) .u32
  have et : n.tmod 19 = n % 19 := Int.tmod_eq_emod_of_nonneg hn.1
  have hr : 0 ≤ n % 19 ∧ n % 19 < 19 := by omega
  unfold l6_R n32
  rw [ew, et, wrap_u8, show (237 + n % 19) % 256 = 237 + n % 19 by omega]
  refine ⟨emit_ne6 (key_eq o2 f2 (by rw [o1, f1, numV_fl hk])), emit_of ?_, emit_ne6 (key_zero p2 (by rw [p1, numV_p])), emit_ne6 (key_eq (bnd_sub p2 s1) (bnd_sub hz s1) (by rw [FV_sub p2 s1, FV_sub hz s1, p1, numV_p, vz])), emit_of ?_, rfl⟩
  · rw [key_FV o2, keyN_eq, lim_vK (by decide)]
    have := F_lt (FV (ofV (vK k)))
    generalize (FV (ofV (vK k))).val = m at *
    refine decide_eq_false ?_
    show ¬ (((m / 2 ^ (8 * 31) % 256 : Nat) : Int) > 127)
    have e : (2 ^ (8 * 31) : Nat) = 452312848583266388373324160190187140051835877600158453279131187530910662656 := by decide
    rw [e]
    omega
  · have hr' : ∃ r : Fin 19, n % 19 = (r.val : Int) := ⟨⟨(n % 19).toNat, by omega⟩, by show n % 19 = ((n % 19).toNat : Int); omega⟩
    obtain ⟨r, hr'⟩ := hr'
    rw [hr']
    obtain ⟨q1, q2⟩ := of_FV (isK_pK (b := 237 + (r.val : Int)) ⟨by omega, by omega⟩)
    rw [key_FV q2, q1, p19 r]
    exact k19' r
theorem l6_ctr (k : Nat → Int) (n : Int) (hk : isK k) (hn : isB n) : ∀ q, Ctr Try.prog 6 (mkA modS (mkE [k, fun _ => n] []) 0) q (.bool true) := by
  have e0 : (mkE [k, fun _ => n] []).i 0 = k := rfl
  have e1 : (mkE [k, fun _ => n] []).i 1 0 = n := rfl
  generalize mkE [k, fun _ => n] [] = e at e0 e1
  have hev := l6_run e
  rw [e0, e1] at hev
  exact fo_ctr orcW1_ok Try.func6 (by kernel_rfl) ids_mk (of_eq hev (l6_plain hk hn))

theorem isE_of {f : Nat → Int} (h : ∀ j, j < 5 → (Lit.int .u64 (f j)).wf = true) : isE f := fun j hj => by
  obtain ⟨h1, h2⟩ := range_of (h j hj)
  have e1 : IntKind.u64.min = 0 := by decide
  have e2 : IntKind.u64.max = 18446744073709551615 := by decide
  rw [e1] at h1; rw [e2] at h2
  exact ⟨h1, by omega⟩
theorem u32_of {n : Int} (h : (Lit.int .u32 n).wf = true) : 0 ≤ n ∧ n < 4294967296 := by
  obtain ⟨h1, h2⟩ := range_of h
  have e1 : IntKind.u32.min = 0 := by decide
  have e2 : IntKind.u32.max = 4294967295 := by decide
  rw [e1] at h1; rw [e2] at h2
  exact ⟨h1, by omega⟩
theorem isK_of {f : Nat → Int} (h : ∀ j, j < 32 → (Lit.int .u8 (f j)).wf = true) : isK f := fun j hj => isB_of (h j hj)

set_option maxRecDepth 100000 in
theorem limbModulus_lifted (os : Os) (started : os.Started) (H : Type) (enc : TypeId × Value → H) :
    ReturnsInHanded {} Try.checked os 6 .any (Rows.limbModulusSpec.pre6 enc Try.prog Try.f6 Rows.limbModulusRow.domain false) (Rows.limbModulusSpec.post enc Try.prog Try.f6 false true false false) := by
  refine returnsInHanded_of_change (C := Try.checked) own started (by kernel_rfl) Try.func6
    (ChangeSpec.witness6 (enc := enc) (C := Try.checked) false ⟨#[], #[arrOf .u8 32 (fun _ => 0), .int .u8 0], []⟩ 8 (by kernel_rfl) (by kernel_rfl) (by kernel_rfl) (by kernel_rfl)) ?_
  intro W base args ds gs before hval0 hW hcnd _
  have hval : ∀ (j : Nat) t v, Try.f6.params[j]? = some t → args[j]? = some v → Value.okWide Try.prog W .any base t v := hval0
  have hW' := hW
  obtain ⟨p, q, hA0, hV, rfl, hfz, hnd⟩ := hW
  have hA : DataW.TrodAll enc Try.prog W 0 (fun _ => true) true Try.f6.params.toList args.toList ds p := hA0
  rw [Try.params6] at hA hval
  obtain ⟨v0, v1, d0, d1, p0, p1, rfl, rfl, rfl, h0, h1⟩ := trodAll_two hA
  obtain ⟨rfl, rfl⟩ := trodVars_none hV
  obtain ⟨x0, rfl, w0⟩ := open_arr Try.underlying23 Try.underlying5 (by kernel_rfl) (by kernel_rfl) (hval 0 23 v0 rfl rfl) h0
  obtain ⟨x1, rfl, rfl, rfl, w1⟩ := open_int Try.underlying5 (hval 1 5 v1 rfl rfl) h1
  refine (plain_calls (l6_ctr x0 x1 (isK_of w0) (isB_of w1)) W).mono fun e W' ⟨he, hb⟩ => ?_
  exact ⟨_, he, law_post hW' hb rfl (by kernel_rfl) (reads_of (by kernel_rfl)) ⟨rfl, rfl, rfl⟩⟩

theorem limbModulus_closed : joinedFacts Try.prog 6 Try.f6 Rows.limbModulusSpec Rows.limbModulusRow = true := by
  refine (joinedFacts.eq_1 ..).trans ?_
  rw [enters_ok, no_finals, make_is]
  kernel_rfl

theorem limbModulus_holds : Rows.LimbModulusSaid :=
  OpenClaim.holds_of_wide 6 Try.f6 rfl rfl rfl rfl rfl rfl rfl ⟨rfl, rfl, rfl, rfl, rfl⟩ rfl rfl rfl rfl rfl (by kernel_rfl) Try.func6 limbModulus_closed
    (of_decide_eq_true (by kernel_rfl)) (by unfold Func.isWrapper; rw [if_neg (by decide +kernel)]; exact ⟨rfl, rfl⟩)
    (fun os started H enc _ => limbModulus_lifted os started H enc)

end Go.Proofs.Ythgefjgbkhkmgaa
