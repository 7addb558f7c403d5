/-
  The law LadderSteps, walked, and its row.
-/
import Derived.Test.YthgefjgbkhkmgaaRef5I
import Derived.Test.YthgefjgbkhkmgaaRow
import Derived.Test.YthgefjgbkhkmgaaHead
namespace Go.Proofs.Ythgefjgbkhkmgaa
open Go Go.ChangeShapes Go.WideShapes Go.ChangeAt Go.RowKit Ev
attribute [local irreducible] evC evBody

open Sap (F P toF pw)
def okE1 (b : Bool) : Prop := b = true
theorem okE1_of {p : Prop} (h : p) : okE1 (ifP p) := ifP_of h
noncomputable def orcG21 (SA : Value → Nat → Int) (SB : Value → Value → Value → Nat → Int) (AF : Value → Nat → Int) : Orc :=
  oadd (oadd (oadd (oadd (oadd (oadd (oadd orcN1 44 (foOf elS limbsF)) 74 (foOf s5S s5F)) 68 (foOf numS1 invnF)) 58 (foOf numS2 mulnF)) 40 (foOf isS isF))
    73 (foOf stS fun a => (true, .tuple #[lims10 (SA (getD a 1)), lims10 (SB (getD a 0) (getD a 1) (getD a 2))]))) 75 (foOf afS fun a => (true, lims (AF (getD a 0))))

theorem l21_g0 (SA : Value → Nat → Int) (SB : Value → Value → Value → Nat → Int) (AF : Value → Nat → Int) (e : Env) : evBody tab (orcG21 SA SB AF) [(16, .b false)] [] [] 1000 Try.f21 (bodyOf Try.f21) (mkA stS e 0) [] 0 [] (fun r => r = .bool true) =
    (emit (looseB (a0 e stS 0)) false ∧ Value.bool true = .bool true) := by kernel_rfl
theorem l21_g1 (SA : Value → Nat → Int) (SB : Value → Value → Value → Nat → Int) (AF : Value → Nat → Int) (e : Env) : evBody tab (orcG21 SA SB AF) [(16, .b true), (21, .b false)] [] [] 1000 Try.f21 (bodyOf Try.f21) (mkA stS e 0) [] 0 [] (fun r => r = .bool true) =
    (emit (looseB (a0 e stS 0)) true ∧ emit (looseB (pX (a0 e stS 1))) false ∧ Value.bool true = .bool true) := by kernel_rfl
theorem l21_g2 (SA : Value → Nat → Int) (SB : Value → Value → Value → Nat → Int) (AF : Value → Nat → Int) (e : Env) : evBody tab (orcG21 SA SB AF) [(16, .b true), (21, .b true), (27, .b false)] [] [] 1000 Try.f21 (bodyOf Try.f21) (mkA stS e 0) [] 0 [] (fun r => r = .bool true) =
    (emit (looseB (a0 e stS 0)) true ∧ emit (looseB (pX (a0 e stS 1))) true ∧ emit (looseB (pZ (a0 e stS 1))) false ∧ Value.bool true = .bool true) := by kernel_rfl
theorem l21_g3 (SA : Value → Nat → Int) (SB : Value → Value → Value → Nat → Int) (AF : Value → Nat → Int) (e : Env) : evBody tab (orcG21 SA SB AF) [(16, .b true), (21, .b true), (27, .b true), (33, .b false)] [] [] 1000 Try.f21 (bodyOf Try.f21) (mkA stS e 0) [] 0 [] (fun r => r = .bool true) =
    (emit (looseB (a0 e stS 0)) true ∧ emit (looseB (pX (a0 e stS 1))) true ∧ emit (looseB (pZ (a0 e stS 1))) true ∧ emit (looseB (pX (a0 e stS 2))) false ∧ Value.bool true = .bool true) := by kernel_rfl
theorem l21_g4 (SA : Value → Nat → Int) (SB : Value → Value → Value → Nat → Int) (AF : Value → Nat → Int) (e : Env) : evBody tab (orcG21 SA SB AF) [(16, .b true), (21, .b true), (27, .b true), (33, .b true), (39, .b false)] [] [] 1000 Try.f21 (bodyOf Try.f21) (mkA stS e 0) [] 0 [] (fun r => r = .bool true) =
    (emit (looseB (a0 e stS 0)) true ∧ emit (looseB (pX (a0 e stS 1))) true ∧ emit (looseB (pZ (a0 e stS 1))) true ∧ emit (looseB (pX (a0 e stS 2))) true ∧ emit (looseB (pZ (a0 e stS 2))) false ∧ Value.bool true = .bool true) := by kernel_rfl
noncomputable def l21_L (x a b : Value) : Sap.St := Sap.lstep (NF (vNum (FV x))) (NF (vNum (FV (pX a)))) (NF (vNum (FV (pZ a)))) (NF (vNum (FV (pX b)))) (NF (vNum (FV (pZ b))))
noncomputable def l21_R (SA : Value → Nat → Int) (SB : Value → Value → Value → Nat → Int) (AF : Value → Nat → Int) (x a b : Value) : Prop :=
  emit (looseB x) true ∧ emit (looseB (pX a)) true ∧ emit (looseB (pZ a)) true ∧ emit (looseB (pX b)) true ∧ emit (looseB (pZ b)) true ∧
  okE1 (ifP (inU x)) ∧ okE1 (ifP (inU (pX a))) ∧ okE1 (ifP (inU (pZ a))) ∧ okE1 (ifP (inU (pX b))) ∧ okE1 (ifP (inU (pZ b))) ∧
  okE1 (ifP (can (vNum (FV x)) ∧ can (vNum (FV (pX a))) ∧ can (vNum (FV (pZ a))) ∧ can (vNum (FV (pX b))) ∧ can (vNum (FV (pZ b))))) ∧
  okE1 (ifP (isP (pX (lims10 (SA a))) (vNum (l21_L x a b).x2))) ∧ okE (ifP (isP (pZ (lims10 (SA a))) (vNum (l21_L x a b).z2))) ∧
  okE (ifP (isP (pX (lims10 (SB x a b))) (vNum (l21_L x a b).x3))) ∧ okE (ifP (isP (pZ (lims10 (SB x a b))) (vNum (l21_L x a b).z3))) ∧
  okE (ifP (inU (pX a))) ∧ okE (ifP (inU (pZ a))) ∧ okE (ifP (can (vNum (FV (pZ a))))) ∧ okE (ifP (can (vNum (FV (pX a))) ∧ can (vNum (Sap.inv (NF (vNum (FV (pZ a)))))))) ∧
  okE (ifP (isP (lims (AF a)) (vNum (NF (vNum (FV (pX a))) * NF (vNum (Sap.inv (NF (vNum (FV (pZ a))))))))) ) ∧ Value.bool true = .bool true
theorem l21_run (SA : Value → Nat → Int) (SB : Value → Value → Value → Nat → Int) (AF : Value → Nat → Int) (e : Env) : evBody tab (orcG21 SA SB AF) [(16, .b true), (21, .b true), (27, .b true), (33, .b true), (39, .b true), (51, .ok), (54, .ok), (57, .ok), (60, .ok), (63, .ok), (64, .ok), (72, .ok), (77, .ok), (83, .ok), (89, .ok), (96, .ok), (99, .ok), (100, .ok), (101, .ok), (102, .ok)] [] [] 1000 Try.f21 (bodyOf Try.f21) (mkA stS e 0) [] 0 [] (fun r => r = .bool true) =
    l21_R SA SB AF (a0 e stS 0) (a0 e stS 1) (a0 e stS 2) := by kernel_rfl
def aI (a : Value) : Nat → Int := limF (stA a)
def bI (x a b : Value) : Nat → Int := limF (stB x a b)
def fI (a : Value) : Nat → Int := limF (affV a)
theorem fI_eq (a : Value) : lims (fI a) = affV a := (show lims (fI a) = nrm (affV a) from rfl).trans (by unfold affV; rw [nrm_mul])
theorem orcG21_ok : OrcOk Try.prog (orcG21 aI bI fI) := by
  have h1 : (fun a : List Value => (true, Value.tuple #[lims10 (aI (getD a 1)), lims10 (bI (getD a 0) (getD a 1) (getD a 2))])) = stF := by
    funext a
    unfold aI bI stF
    rw [stA_lims, stB_lims]
  have h2 : (fun a : List Value => (true, lims (fI (getD a 0)))) = afF := by
    funext a
    rw [fI_eq]
    rfl
  unfold orcG21
  rw [h1, h2]
  exact oadd_ok (oadd_ok (oadd_ok (oadd_ok (oadd_ok (oadd_ok (oadd_ok orcN1_ok limbs_ok) s5_ok) invn_ok) muln_ok) is_ok) st_ok) af_ok
theorem aff_TT {a : Value} (ha : pb a) : bnd (affV a) TT := (mul_FV ha.1 (bnd_nrm (inv_val ha.2).1)).2
theorem st_TT {x a b : Value} (hx : bnd x LL) (ha : pb a) (hb : pb b) : bnd (pX (stA a)) TT ∧ bnd (pZ (stA a)) TT ∧ bnd (pX (stB x a b)) TT ∧ bnd (pZ (stB x a b)) TT := by
  obtain ⟨a1, a2⟩ := ha
  obtain ⟨b1, b2⟩ := hb
  have hp : bnd (stP a) LL := bnd_add a1 a2
  have hq : bnd (stQ a) LL := bnd_sub a1 a2
  have hr : bnd (stP b) LL := bnd_add b1 b2
  have hs : bnd (stQ b) LL := bnd_sub b1 b2
  have hE : bnd (stE a) LL := bnd_sub (b_sq hp) (b_sq hq)
  have t := times_FV hE (k := .u32) (n := 121665) ⟨by decide, by decide⟩
  have hda := b_mul hs hp
  have hcb := b_mul hr hq
  have s1 := bnd_add hda hcb
  have s2 := bnd_sub hda hcb
  have u := bnd_add (b_sq hp) (bnd_LL t.2)
  refine ⟨?_, ?_, ?_, ?_⟩
  · rw [stA, pX_pr]; exact bnd_nrm (mul_FV (b_sq hp) (b_sq hq)).2
  · rw [stA, pZ_pr]; exact bnd_nrm (mul_FV hE u).2
  · rw [stB, pX_pr]; exact bnd_nrm (sq_FV s1).2
  · rw [stB, pZ_pr]; exact bnd_nrm (mul_FV hx (b_sq s2)).2
theorem l21_plain {x a b : Value} (bx : bnd x LL) (ha : pb a) (hb : pb b) (gx : looseB x = true) (g1 : looseB (pX a) = true) (g2 : looseB (pZ a) = true) (g3 : looseB (pX b) = true) (g4 : looseB (pZ b) = true) : l21_R aI bI fI x a b := by
  obtain ⟨t1, t2, t3, t4⟩ := st_TT bx ha hb
  have sv := (st_val bx ha hb).2.2
  have hL : l21_L x a b = Sap.lstep (FV x) (FV (pX a)) (FV (pZ a)) (FV (pX b)) (FV (pZ b)) := by
    unfold l21_L
    simp only [NF_vNum]
  have eA : lims10 (aI a) = stA a := stA_lims a
  have eB : lims10 (bI x a b) = stB x a b := stB_lims x a b
  unfold l21_R
  rw [eA, eB, fI_eq, hL, ← sv]
  refine ⟨emit_of gx, emit_of g1, emit_of g2, emit_of g3, emit_of g4, okE1_of (inU_of bx), okE1_of (inU_of ha.1), okE1_of (inU_of ha.2), okE1_of (inU_of hb.1), okE1_of (inU_of hb.2),
    okE1_of ⟨can_vNum _, can_vNum _, can_vNum _, can_vNum _, can_vNum _⟩, okE1_of ⟨t1, can_vNum _, ?_⟩, okE_of ⟨t2, can_vNum _, ?_⟩, okE_of ⟨t3, can_vNum _, ?_⟩, okE_of ⟨t4, can_vNum _, ?_⟩,
    okE_of (inU_of ha.1), okE_of (inU_of ha.2), okE_of (can_vNum _), okE_of ⟨can_vNum _, can_vNum _⟩, okE_of ⟨aff_TT ha, can_vNum _, ?_⟩, rfl⟩
  · rw [NF_vNum]
  · rw [NF_vNum]
  · rw [NF_vNum]
  · rw [NF_vNum]
  · rw [NF_vNum, NF_vNum, NF_vNum, NF_vNum]
    exact (aff_val ha).2
/-- ten limbs as they may stand in the memory -/
def isT (f : Nat → Int) : Prop := ∀ j, j < 10 → 0 ≤ f j ∧ f j < 18446744073709551616
def pO (f : Nat → Int) : Value := arrOf .u64 10 f
theorem pX_pO (f : Nat → Int) : pX (pO f) = vE f := rfl
theorem pZ_pO (f : Nat → Int) : pZ (pO f) = vE (fun j => f (j + 5)) := rfl
theorem isE_lo {f : Nat → Int} (h : isT f) : isE f := fun j hj => h j (by omega)
theorem isE_hi {f : Nat → Int} (h : isT f) : isE (fun j => f (j + 5)) := fun j hj => h (j + 5) (by omega)
theorem l21_ctr (f p q : Nat → Int) (hf : isE f) (hp : isT p) (hq : isT q) : ∀ r, Ctr Try.prog 21 (mkA stS (mkE [f, p, q] []) 0) r (.bool true) := by
  have e0 : a0 (mkE [f, p, q] []) stS 0 = vE f := rfl
  have e1 : a0 (mkE [f, p, q] []) stS 1 = pO p := rfl
  have e2 : a0 (mkE [f, p, q] []) stS 2 = pO q := rfl
  generalize mkE [f, p, q] [] = e at e0 e1 e2
  cases g0 : looseB (vE f) with
  | false =>
    have hev := l21_g0 aI bI fI e
    rw [e0] at hev
    exact fo_ctr orcG21_ok Try.func21 (by kernel_rfl) ids_mk (of_eq hev ⟨emit_of g0, rfl⟩)
  | true =>
    cases g1 : looseB (pX (pO p)) with
    | false =>
      have hev := l21_g1 aI bI fI e
      rw [e0, e1] at hev
      exact fo_ctr orcG21_ok Try.func21 (by kernel_rfl) ids_mk (of_eq hev ⟨emit_of g0, emit_of g1, rfl⟩)
    | true =>
      cases g2 : looseB (pZ (pO p)) with
      | false =>
        have hev := l21_g2 aI bI fI e
        rw [e0, e1] at hev
        exact fo_ctr orcG21_ok Try.func21 (by kernel_rfl) ids_mk (of_eq hev ⟨emit_of g0, emit_of g1, emit_of g2, rfl⟩)
      | true =>
        cases g3 : looseB (pX (pO q)) with
        | false =>
          have hev := l21_g3 aI bI fI e
          rw [e0, e1, e2] at hev
          exact fo_ctr orcG21_ok Try.func21 (by kernel_rfl) ids_mk (of_eq hev ⟨emit_of g0, emit_of g1, emit_of g2, emit_of g3, rfl⟩)
        | true =>
          cases g4 : looseB (pZ (pO q)) with
          | false =>
            have hev := l21_g4 aI bI fI e
            rw [e0, e1, e2] at hev
            exact fo_ctr orcG21_ok Try.func21 (by kernel_rfl) ids_mk (of_eq hev ⟨emit_of g0, emit_of g1, emit_of g2, emit_of g3, emit_of g4, rfl⟩)
          | true =>
            have hev := l21_run aI bI fI e
            rw [e0, e1, e2] at hev
            have ha : pb (pO p) := ⟨loose_of (f := p) (isE_lo hp) g1, loose_of (f := fun j => p (j + 5)) (isE_hi hp) g2⟩
            have hb : pb (pO q) := ⟨loose_of (f := q) (isE_lo hq) g3, loose_of (f := fun j => q (j + 5)) (isE_hi hq) g4⟩
            exact fo_ctr orcG21_ok Try.func21 (by kernel_rfl) ids_mk (of_eq hev (l21_plain (loose_of hf g0) ha hb g0 g1 g2 g3 g4))
set_option maxRecDepth 100000 in
theorem trod_arr {H : Type} {enc : TypeId × Value → H} {t e : TypeId} {n : Nat} {k : IntKind} {W : World} {base : Nat} {sp : Nat → Bool} {held : Bool} {m : Nat} {cs : List Value} {y : DataW H × List MemPlace} (ht : Try.prog.underlying t = some (.array n e)) (he : Try.prog.underlying e = some (.int k))
    (hc : Try.prog.cellsOf e = 1) (hn : Try.prog.cellsOf t = n) (hf : DataW.trod enc Try.prog W base sp held m t cs = some y) : ∃ f : Nat → Int, cs = cellsOf k f n 0 ∧ ∀ j, j < n → (Lit.int k (f j)).wf = true := by
  cases m with
  | zero => simp [DataW.trod] at hf
  | succ m =>
    rw [DataW.trod_step] at hf
    unfold DataW.trodStep at hf
    simp only [ht] at hf
    by_cases h2 : cs.length = Try.prog.cellsOf t
    · rw [if_pos h2] at hf
      simp only [Option.map_eq_some_iff] at hf
      obtain ⟨ys, hy, _⟩ := hf
      rw [hn] at h2
      have key : ∀ (L : List Nat) (ys : List (DataW H × List MemPlace)), L.mapM (fun i => DataW.trod enc Try.prog W base sp held m e ((cs.drop (i * Try.prog.cellsOf e)).take (Try.prog.cellsOf e))) = some ys →
          ∀ i ∈ L, ∃ x, (cs.drop i).take 1 = [.int k x] ∧ (Lit.int k x).wf = true := by
        intro L
        induction L with
        | nil => intro _ _ i hi; cases hi
        | cons a L ih =>
          intro ys h i hi
          rw [List.mapM_cons] at h
          simp only [bind, Option.bind_eq_some_iff] at h
          obtain ⟨y, hy, ys', hys, _⟩ := h
          rcases List.mem_cons.1 hi with rfl | hi
          · obtain ⟨x, ex, _, wx⟩ := DataW.trod_int he hy
            rw [hc, Nat.mul_one] at ex
            exact ⟨x, ex, wx⟩
          · exact ih ys' hys i hi
      have hall := key _ _ hy
      have hone : ∀ i, i < n → ∃ x, cs[i]? = some (.int k x) ∧ (Lit.int k x).wf = true := by
        intro i hi
        obtain ⟨x, ex, wx⟩ := hall i (List.mem_range.2 hi)
        refine ⟨x, ?_, wx⟩
        have := congrArg (fun l => l[0]?) ex
        simpa using this
      have hA : isA k n cs = true := isA_of h2 fun i hi => by
        obtain ⟨x, ex, _⟩ := hone i hi
        exact ⟨x, ex⟩
      obtain ⟨f, hf⟩ := isA_eq hA
      refine ⟨f, hf, fun j hj => ?_⟩
      obtain ⟨x, ex, wx⟩ := hone j hj
      rw [hf] at ex
      rw [cells_get n 0 j hj, Nat.zero_add] at ex
      cases ex
      exact wx
    · rw [if_neg h2] at hf
      cases hf
set_option maxRecDepth 100000 in
/-- a pair opened -/
theorem open_pair {H : Type} {enc : TypeId × Value → H} {W : World} {base base' : Nat} {sp : Nat → Bool} {held : Bool} {r : Reach} {v : Value} {d : DataW H} {ps : List MemPlace}
    (hval : Value.okWide Try.prog W r base' 84 v) (hd : DataW.Trod enc Try.prog W base sp held 84 v d ps) : ∃ f : Nat → Int, v = pO f ∧ isT f := by
  have ht := Try.underlying84
  simp only [Value.okWide, ht] at hval
  obtain ⟨cs, rfl, h2, _⟩ := hval
  have hc84 : Try.prog.cellsOf 84 = 10 := by kernel_rfl
  have hc36 : Try.prog.cellsOf 36 = 5 := by kernel_rfl
  obtain ⟨fuel, hf⟩ := hd
  cases fuel with
  | zero => simp [DataW.trod] at hf
  | succ m =>
    rw [DataW.trod_step] at hf
    unfold DataW.trodStep at hf
    simp only [ht, Value.cells] at hf
    rw [if_pos (by simpa using h2)] at hf
    simp only [Option.map_eq_some_iff] at hf
    obtain ⟨ys, hy, _⟩ := hf
    simp only [List.mapM_cons, List.mapM_nil, bind, Option.bind_eq_some_iff] at hy
    obtain ⟨y1, hy1, ys1, ⟨y2, hy2, _⟩, _⟩ := hy
    rw [hc36] at hy1 hy2
    obtain ⟨f, hf1, wf1⟩ := trod_arr Try.underlying36 Try.underlying34 (by kernel_rfl) hc36 hy1
    obtain ⟨g, hg1, wg1⟩ := trod_arr Try.underlying36 Try.underlying34 (by kernel_rfl) hc36 hy2
    refine ⟨fun j => match Nat.ble 5 j with | true => g (j - 5) | false => f j, ?_, ?_⟩
    · have hlen : cs.toList.length = 10 := by rw [hc84] at h2; simpa using h2
      have e : cs.toList = cellsOf .u64 f 5 0 ++ cellsOf .u64 g 5 0 := by
        rw [← hf1, ← hg1]
        have t5 : (List.drop 5 cs.toList).take 5 = List.drop 5 cs.toList := List.take_of_length_le (by rw [List.length_drop]; omega)
        show cs.toList = (List.drop 0 cs.toList).take 5 ++ (List.drop 5 cs.toList).take 5
        rw [t5, List.drop_zero, List.take_append_drop]
      have e2 : cs = (cellsOf .u64 f 5 0 ++ cellsOf .u64 g 5 0).toArray := by rw [← e]
      rw [e2]
      rfl
    · intro j hj
      have u : ∀ x : Int, (Lit.int .u64 x).wf = true → 0 ≤ x ∧ x < 18446744073709551616 := by
        intro x h
        obtain ⟨h1, h2⟩ := range_of h
        have e1 : IntKind.u64.min = 0 := by decide
        have e2 : IntKind.u64.max = 18446744073709551615 := by decide
        rw [e1] at h1; rw [e2] at h2
        exact ⟨h1, by omega⟩
      show 0 ≤ (match Nat.ble 5 j with | true => g (j - 5) | false => f j) ∧ (match Nat.ble 5 j with | true => g (j - 5) | false => f j) < _
      cases hb : Nat.ble 5 j with
      | true => exact u _ (wg1 (j - 5) (by omega))
      | false =>
        have : j < 5 := by
          rcases Nat.lt_or_ge j 5 with h | h
          · exact h
          · rw [Nat.ble_eq_true_of_le h] at hb; cases hb
        exact u _ (wf1 j this)

theorem isE_of {f : Nat → Int} (h : ∀ j, j < 5 → (Lit.int .u64 (f j)).wf = true) : isE f := fun j hj => by
  obtain ⟨h1, h2⟩ := range_of (h j hj)
  have e1 : IntKind.u64.min = 0 := by decide
  have e2 : IntKind.u64.max = 18446744073709551615 := by decide
  rw [e1] at h1; rw [e2] at h2
  exact ⟨h1, by omega⟩
theorem u32_of {n : Int} (h : (Lit.int .u32 n).wf = true) : 0 ≤ n ∧ n < 4294967296 := by
  obtain ⟨h1, h2⟩ := range_of h
  have e1 : IntKind.u32.min = 0 := by decide
  have e2 : IntKind.u32.max = 4294967295 := by decide
  rw [e1] at h1; rw [e2] at h2
  exact ⟨h1, by omega⟩
theorem isK_of {f : Nat → Int} (h : ∀ j, j < 32 → (Lit.int .u8 (f j)).wf = true) : isK f := fun j hj => isB_of (h j hj)

set_option maxRecDepth 100000 in
theorem ladderSteps_lifted (os : Os) (started : os.Started) (H : Type) (enc : TypeId × Value → H) :
    ReturnsInHanded {} Try.checked os 21 .any (Rows.ladderStepsSpec.pre6 enc Try.prog Try.f21 Rows.ladderStepsRow.domain false) (Rows.ladderStepsSpec.post enc Try.prog Try.f21 false true false false) := by
  refine returnsInHanded_of_change (C := Try.checked) own started (by kernel_rfl) Try.func21
    (ChangeSpec.witness6 (enc := enc) (C := Try.checked) false ⟨#[], #[arrOf .u64 5 (fun _ => 0), arrOf .u64 10 (fun _ => 0), arrOf .u64 10 (fun _ => 0)], []⟩ 8 (by kernel_rfl) (by kernel_rfl) (by kernel_rfl) (by kernel_rfl)) ?_
  intro W base args ds gs before hval0 hW hcnd _
  have hval : ∀ (j : Nat) t v, Try.f21.params[j]? = some t → args[j]? = some v → Value.okWide Try.prog W .any base t v := hval0
  have hW' := hW
  obtain ⟨p, q, hA0, hV, rfl, hfz, hnd⟩ := hW
  have hA : DataW.TrodAll enc Try.prog W 0 (fun _ => true) true Try.f21.params.toList args.toList ds p := hA0
  rw [Try.params21] at hA hval
  obtain ⟨v0, v1, v2, d0, d1, d2, p0, p1, p2, rfl, rfl, rfl, h0, h1, h2⟩ := trodAll_three hA
  obtain ⟨rfl, rfl⟩ := trodVars_none hV
  obtain ⟨x0, rfl, w0⟩ := open_arr Try.underlying36 Try.underlying34 (by kernel_rfl) (by kernel_rfl) (hval 0 36 v0 rfl rfl) h0
  obtain ⟨x1, rfl, w1⟩ := open_pair (hval 1 84 v1 rfl rfl) h1
  obtain ⟨x2, rfl, w2⟩ := open_pair (hval 2 84 v2 rfl rfl) h2
  refine (plain_calls (l21_ctr x0 x1 x2 (isE_of w0) w1 w2) W).mono fun e W' ⟨he, hb⟩ => ?_
  exact ⟨_, he, law_post hW' hb rfl (by kernel_rfl) (reads_of (by kernel_rfl)) ⟨rfl, rfl, rfl⟩⟩

theorem ladderSteps_closed : joinedFacts Try.prog 21 Try.f21 Rows.ladderStepsSpec Rows.ladderStepsRow = true := by
  refine (joinedFacts.eq_1 ..).trans ?_
  rw [enters_ok, no_finals, make_is]
  kernel_rfl

theorem ladderSteps_holds : Rows.LadderStepsSaid :=
  OpenClaim.holds_of_wide 21 Try.f21 rfl rfl rfl rfl rfl rfl rfl ⟨rfl, rfl, rfl, rfl, rfl⟩ rfl rfl rfl rfl rfl (by kernel_rfl) Try.func21 ladderSteps_closed
    (of_decide_eq_true (by kernel_rfl)) (by unfold Func.isWrapper; rw [if_neg (by decide +kernel)]; exact ⟨rfl, rfl⟩)
    (fun os started H enc _ => ladderSteps_lifted os started H enc)

end Go.Proofs.Ythgefjgbkhkmgaa
