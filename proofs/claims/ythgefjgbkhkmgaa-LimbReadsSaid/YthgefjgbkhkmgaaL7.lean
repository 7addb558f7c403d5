/-
  The law LimbReads, walked, and its row.
-/
import Derived.Test.YthgefjgbkhkmgaaIsW
import Derived.Test.YthgefjgbkhkmgaaRow
import Derived.Test.YthgefjgbkhkmgaaHead
namespace Go.Proofs.Ythgefjgbkhkmgaa
open Go Go.ChangeShapes Go.WideShapes Go.ChangeAt Go.RowKit Ev
attribute [local irreducible] evC evBody

open Sap (F P toF)
def rdS : List Sh := [.arr .u8 32, .int .u32, .arr .u64 5]
noncomputable def f7l : Code := inB (blockIn 0 (bodyOf Try.f7))
def rdPre (k x : Value) (n : Int) (b1 b2 : Bool) (c : Int) : AS := ⟨tmps [(1, .int .u32 n), (3, ptr 0), (5, ptr 1), (7, .bool b1), (8, .bool b2), (13, x), (14, .int .i64 c)] 75 0,
  [(0, ⟨cellsV k, 23, true, 0⟩), (1, ⟨cellsV x, 36, true, 0⟩)], 200⟩
def rdN (m : Int) (b : Bool) (x : Int) : Bool := match b with
  | true => decide (x ≤ m)
  | false => false
def rdRound (φ f : Nat → Int) (n : Int) (b1 b2 : Bool) (i : Nat) : Prop := evC tab orcS1 [] [] [] 100 f7l (fun e _ s' => match e with | .normal => leS (rdPre (vK φ) (lims f) n (rdN TT b1 (lim (lims f) i)) (rdN LL b2 (lim (lims f) i)) (.ofNat (i + 1))) s' | _ => False) [] (rdPre (vK φ) (lims f) n b1 b2 (.ofNat i))
def rdWant (φ f : Nat → Int) (n : Int) (b1 b2 : Bool) (i : Nat) : Prop := leS (rdPre (vK φ) (lims f) n (rdN TT b1 (lim (lims f) i)) (rdN LL b2 (lim (lims f) i)) (.ofNat (i + 1))) (rdPre (vK φ) (lims f) n (rdN TT b1 (lim (lims f) i)) (rdN LL b2 (lim (lims f) i)) (.ofNat (i + 1)))
theorem rd_tt (φ f : Nat → Int) (n : Int) : List.map (rdRound φ f n true true) (Ev.runN 0 5) = mapL (rdWant φ f n true true) (Ev.runN 0 5) := by kernel_rfl
theorem rd_tf (φ f : Nat → Int) (n : Int) : List.map (rdRound φ f n true false) (Ev.runN 0 5) = mapL (rdWant φ f n true false) (Ev.runN 0 5) := by kernel_rfl
theorem rd_ft (φ f : Nat → Int) (n : Int) : List.map (rdRound φ f n false true) (Ev.runN 0 5) = mapL (rdWant φ f n false true) (Ev.runN 0 5) := by kernel_rfl
theorem rd_ff (φ f : Nat → Int) (n : Int) : List.map (rdRound φ f n false false) (Ev.runN 0 5) = mapL (rdWant φ f n false false) (Ev.runN 0 5) := by kernel_rfl
theorem rd_last (φ f : Nat → Int) (n : Int) (b1 b2 : Bool) : evC tab orcS1 [] [] [] 100 f7l (fun e _ s' => match e with | .exit j => (match Nat.beq j 0 with | true => leS (rdPre (vK φ) (lims f) n b1 b2 5) s' | false => False) | _ => False) [] (rdPre (vK φ) (lims f) n b1 b2 5) = leS (rdPre (vK φ) (lims f) n b1 b2 5) (rdPre (vK φ) (lims f) n b1 b2 5) := by kernel_rfl
theorem rdPre_refl (k x : Value) (n : Int) (b1 b2 : Bool) (c : Int) : leS (rdPre k x n b1 b2 c) (rdPre k x n b1 b2 c) := ⟨leT_refl _, rfl, rfl, trivial⟩
theorem rdPre_low (φ f : Nat → Int) (n : Int) (b1 b2 : Bool) (c : Int) : low (rdPre (vK φ) (lims f) n b1 b2 c) = true := by kernel_rfl
theorem rd_round (φ f : Nat → Int) (n : Int) (b1 b2 : Bool) {i : Nat} (hi : i < 5) : rdRound φ f n b1 b2 i := by
  have key : rdRound φ f n b1 b2 i = rdWant φ f n b1 b2 i := by
    cases b1 <;> cases b2
    · exact mapL_eq (rd_ff φ f n) i (mem_runN (by omega) (by omega))
    · exact mapL_eq (rd_ft φ f n) i (mem_runN (by omega) (by omega))
    · exact mapL_eq (rd_tf φ f n) i (mem_runN (by omega) (by omega))
    · exact mapL_eq (rd_tt φ f n) i (mem_runN (by omega) (by omega))
  rw [key]
  exact rdPre_refl _ _ _ _ _ _
def rdB (m : Int) (x : Value) : Nat → Bool
  | 0 => true
  | i + 1 => rdN m (rdB m x i) (lim x i)
def rdT (φ f : Nat → Int) (n : Int) (i : Nat) : AS := rdPre (vK φ) (lims f) n (rdB TT (lims f) i) (rdB LL (lims f) i) (.ofNat i)
noncomputable def rdC (φ f : Nat → Int) (n : Int) : LoopC := ⟨.loop f7l, rdT φ f n 0, .normal, rdT φ f n 5⟩
theorem rd_lo (φ f : Nat → Int) (n : Int) : LoOk Try.prog [(0, rdC φ f n)] :=
  lo_cnt (sy := []) (br := []) orcS1_ok loOk_nil (rdT φ f n) 5 (fun _ => rdPre_low _ _ _ _ _ _) (fun i hi => ⟨[], 100, rd_round φ f n _ _ hi⟩) ⟨[], 100, of_eq' (rd_last φ f n _ _) (rdPre_refl _ _ _ _ _ _)⟩
theorem rdB_all (m : Int) (x : Value) : rdB m x 5 = allB x m := by
  have h : ∀ a : Int, decide (a ≤ m) = !decide (a > m) := fun a => by
    by_cases h : a ≤ m
    · rw [decide_eq_true h, decide_eq_false (by omega)]; rfl
    · rw [decide_eq_false h, decide_eq_true (by omega)]; rfl
  unfold allB
  rw [← h, ← h, ← h, ← h, ← h]
  show rdN m (rdN m (rdN m (rdN m (rdN m true _) _) _) _) _ = _
  unfold rdN
  cases decide (lim x 0 ≤ m) <;> cases decide (lim x 1 ≤ m) <;> cases decide (lim x 2 ≤ m) <;> cases decide (lim x 3 ≤ m) <;> cases decide (lim x 4 ≤ m) <;> rfl

noncomputable def l7_A (k x : Value) (n : Int) (p : Prop) : Prop :=
  emit (!(tightB x == rdB TT x 5)) false ∧ emit (!(looseB x == rdB LL x 5)) false ∧
  okE (ifP (isK (dOf k))) ∧ okE (ifP (isP (ofV k) (vNum (numV (dOf k))))) ∧
  okE (ifP (0 ≤ n ∧ n < 4294967296)) ∧ okE (ifP (isP (smallV (.int .u32 n)) (vNum (FI n)))) ∧
  emit (!(eqV (keyV (ofV (keyV (ofV k)))) (keyV (ofV k)))) false ∧ p
theorem l7_g (φ f : Nat → Int) (n : Int) : evBody tab orcS1 [(31, .b false), (36, .b false), (42, .ok), (43, .ok), (50, .ok), (51, .ok), (63, .b false), (66, .b true)] [] [(0, rdC φ f n)] 1000 Try.f7 (bodyOf Try.f7) [vK φ, .int .u32 n, lims f] [] 0 [] (fun r => r = .bool true) =
    (Code.loop f7l = Code.loop f7l ∧ leS (rdT φ f n 0) (rdT φ f n 0) ∧ l7_A (vK φ) (lims f) n (emit (!(rdB LL (lims f) 5)) true ∧ Value.bool true = .bool true)) := by kernel_rfl
theorem l7_run (φ f : Nat → Int) (n : Int) : evBody tab orcS1 [(31, .b false), (36, .b false), (42, .ok), (43, .ok), (50, .ok), (51, .ok), (63, .b false), (66, .b false), (71, .ok), (72, .ok), (73, .b true)] [] [(0, rdC φ f n)] 1000 Try.f7 (bodyOf Try.f7) [vK φ, .int .u32 n, lims f] [] 0 [] (fun r => r = .bool true) =
    (Code.loop f7l = Code.loop f7l ∧ leS (rdT φ f n 0) (rdT φ f n 0) ∧ l7_A (vK φ) (lims f) n (emit (!(rdB LL (lims f) 5)) false ∧ okE (ifP (inU (lims f))) ∧ okE (ifP (can (vNum (FV (lims f))))) ∧
      emit (eqV (keyV (lims f)) (vK (digN (NF (vNum (FV (lims f)))).val))) true ∧ Value.bool true = .bool true)) := by kernel_rfl
theorem emit_bne {a b : Bool} (h : a = b) : emit (!(a == b)) false := by subst h; cases a <;> rfl
theorem emit_ne7 {b : Bool} (h : b = true) : emit (!b) false := by subst h; rfl
theorem l7_all {φ f : Nat → Int} {n : Int} (hφ : isK φ) (hn : 0 ≤ n ∧ n < 4294967296) {p : Prop} (hp : p) : l7_A (vK φ) (lims f) n p := by
  obtain ⟨o1, o2⟩ := of_FV hφ
  obtain ⟨q1, q2⟩ := of_key o2
  obtain ⟨s1, s2⟩ := small_lim n hn.1 hn.2 .u32
  refine ⟨emit_bne (rdB_all _ _).symm, emit_bne (rdB_all _ _).symm, okE_of (isK_dOf hφ), okE_of ⟨of_TT _, can_vNum _, ?_⟩, okE_of hn, okE_of ⟨small_TT hn _, can_vNum _, ?_⟩, emit_ne7 (key_eq q2 o2 q1), hp⟩
  · rw [NF_vNum, numV_dOf, o1]
  · rw [NF_vNum, s2]
theorem l7_ctr (φ : Nat → Int) (n : Int) (f : Nat → Int) (hφ : isK φ) (hn : 0 ≤ n ∧ n < 4294967296) (hf : isE f) : ∀ q, Ctr Try.prog 7 (mkA rdS (mkE [φ, fun _ => n, f] []) 0) q (.bool true) := by
  show ∀ q, Ctr Try.prog 7 [vK φ, .int .u32 n, lims f] q (.bool true)
  have hids : idsOf [vK φ, .int .u32 n, lims f] = [] := rfl
  cases g : looseB (vE f) with
  | false =>
    have hb : rdB LL (lims f) 5 = false := (rdB_all _ _).trans g
    exact fo_ctr orcS1_ok Try.func7 (by kernel_rfl) hids (of_eq (l7_g φ f n) ⟨rfl, rdPre_refl _ _ _ _ _ _, l7_all hφ hn ⟨emit_of (by rw [hb]; rfl), rfl⟩⟩) (rd_lo φ f n)
  | true =>
    have hb : rdB LL (lims f) 5 = true := (rdB_all _ _).trans g
    have bl : bnd (lims f) LL := loose_of hf g
    exact fo_ctr orcS1_ok Try.func7 (by kernel_rfl) hids (of_eq (l7_run φ f n) ⟨rfl, rdPre_refl _ _ _ _ _ _, l7_all hφ hn ⟨emit_of (by rw [hb]; rfl), okE_of (inU_of bl), okE_of (can_vNum _), emit_of (by rw [NF_vNum, key_FV bl, keyN_eq, eqV_refl]), rfl⟩⟩) (rd_lo φ f n)

theorem isE_of {f : Nat → Int} (h : ∀ j, j < 5 → (Lit.int .u64 (f j)).wf = true) : isE f := fun j hj => by
  obtain ⟨h1, h2⟩ := range_of (h j hj)
  have e1 : IntKind.u64.min = 0 := by decide
  have e2 : IntKind.u64.max = 18446744073709551615 := by decide
  rw [e1] at h1; rw [e2] at h2
  exact ⟨h1, by omega⟩
theorem u32_of {n : Int} (h : (Lit.int .u32 n).wf = true) : 0 ≤ n ∧ n < 4294967296 := by
  obtain ⟨h1, h2⟩ := range_of h
  have e1 : IntKind.u32.min = 0 := by decide
  have e2 : IntKind.u32.max = 4294967295 := by decide
  rw [e1] at h1; rw [e2] at h2
  exact ⟨h1, by omega⟩
theorem isK_of {f : Nat → Int} (h : ∀ j, j < 32 → (Lit.int .u8 (f j)).wf = true) : isK f := fun j hj => isB_of (h j hj)

set_option maxRecDepth 100000 in
theorem limbReads_lifted (os : Os) (started : os.Started) (H : Type) (enc : TypeId × Value → H) :
    ReturnsInHanded {} Try.checked os 7 .any (Rows.limbReadsSpec.pre6 enc Try.prog Try.f7 Rows.limbReadsRow.domain false) (Rows.limbReadsSpec.post enc Try.prog Try.f7 false true false false) := by
  refine returnsInHanded_of_change (C := Try.checked) own started (by kernel_rfl) Try.func7
    (ChangeSpec.witness6 (enc := enc) (C := Try.checked) false ⟨#[], #[arrOf .u8 32 (fun _ => 0), .int .u32 0, arrOf .u64 5 (fun _ => 0)], []⟩ 8 (by kernel_rfl) (by kernel_rfl) (by kernel_rfl) (by kernel_rfl)) ?_
  intro W base args ds gs before hval0 hW hcnd _
  have hval : ∀ (j : Nat) t v, Try.f7.params[j]? = some t → args[j]? = some v → Value.okWide Try.prog W .any base t v := hval0
  have hW' := hW
  obtain ⟨p, q, hA0, hV, rfl, hfz, hnd⟩ := hW
  have hA : DataW.TrodAll enc Try.prog W 0 (fun _ => true) true Try.f7.params.toList args.toList ds p := hA0
  rw [Try.params7] at hA hval
  obtain ⟨v0, v1, v2, d0, d1, d2, p0, p1, p2, rfl, rfl, rfl, h0, h1, h2⟩ := trodAll_three hA
  obtain ⟨rfl, rfl⟩ := trodVars_none hV
  obtain ⟨x0, rfl, w0⟩ := open_arr Try.underlying23 Try.underlying5 (by kernel_rfl) (by kernel_rfl) (hval 0 23 v0 rfl rfl) h0
  obtain ⟨x1, rfl, rfl, rfl, w1⟩ := open_int Try.underlying41 (hval 1 41 v1 rfl rfl) h1
  obtain ⟨x2, rfl, w2⟩ := open_arr Try.underlying36 Try.underlying34 (by kernel_rfl) (by kernel_rfl) (hval 2 36 v2 rfl rfl) h2
  refine (plain_calls (l7_ctr x0 x1 x2 (isK_of w0) (u32_of w1) (isE_of w2)) W).mono fun e W' ⟨he, hb⟩ => ?_
  exact ⟨_, he, law_post hW' hb rfl (by kernel_rfl) (reads_of (by kernel_rfl)) ⟨rfl, rfl, rfl⟩⟩

theorem limbReads_closed : joinedFacts Try.prog 7 Try.f7 Rows.limbReadsSpec Rows.limbReadsRow = true := by
  refine (joinedFacts.eq_1 ..).trans ?_
  rw [enters_ok, no_finals, make_is]
  kernel_rfl

theorem limbReads_holds : Rows.LimbReadsSaid :=
  OpenClaim.holds_of_wide 7 Try.f7 rfl rfl rfl rfl rfl rfl rfl ⟨rfl, rfl, rfl, rfl, rfl⟩ rfl rfl rfl rfl rfl (by kernel_rfl) Try.func7 limbReads_closed
    (of_decide_eq_true (by kernel_rfl)) (by unfold Func.isWrapper; rw [if_neg (by decide +kernel)]; exact ⟨rfl, rfl⟩)
    (fun os started H enc _ => limbReads_lifted os started H enc)

end Go.Proofs.Ythgefjgbkhkmgaa
