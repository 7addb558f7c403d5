/-
  Is walked: is an element tight, and does it stand for a number of the document's?
-/
import Derived.Test.YthgefjgbkhkmgaaRefB
import Derived.Test.YthgefjgbkhkmgaaAw2
namespace Go.Proofs.Ythgefjgbkhkmgaa.Ev
open Go Go.RowKit
open Sap (F P toF)
attribute [local irreducible] evC evBody

def okE (b : Bool) : Prop := (true && b) = true
theorem okE_of {p : Prop} (h : p) : okE (ifP p) := by unfold okE; rw [ifP_of h]; rfl
noncomputable def orcS0 : Orc := oadd (oadd orcW1 43 (foOf numS1 keynF)) 44 (foOf elS limbsF)
theorem orcS0_ok : OrcOk Try.prog orcS0 := oadd_ok (oadd_ok orcW1_ok keyn_ok) limbs_ok
def isS : List Sh := [.arr .u64 5, .arr .i64 16]
/-- all is so -/
def isP (x n : Value) : Prop := bnd x TT ∧ can n ∧ FV x = NF n
theorem tight_of {x : Value} (h : bnd x TT) : tightB x = true := by
  obtain ⟨⟨a0, a1⟩, ⟨b0, b1⟩, ⟨c0, c1⟩, ⟨d0, d1⟩, ⟨e0, e1⟩⟩ := h
  unfold TT at *
  unfold tightB allB
  rw [decide_eq_false (by omega), decide_eq_false (by omega), decide_eq_false (by omega), decide_eq_false (by omega), decide_eq_false (by omega)]
  rfl
theorem loose_is {x : Value} (h : bnd x LL) : looseB x = true := by
  obtain ⟨⟨a0, a1⟩, ⟨b0, b1⟩, ⟨c0, c1⟩, ⟨d0, d1⟩, ⟨e0, e1⟩⟩ := h
  unfold LL at *
  unfold looseB allB
  rw [decide_eq_false (by omega), decide_eq_false (by omega), decide_eq_false (by omega), decide_eq_false (by omega), decide_eq_false (by omega)]
  rfl
theorem inU_of {x : Value} (h : bnd x LL) : inU x := bnd_mono h (by decide)
theorem is_ev (e : Env) : evBody tab orcS0 [(6, .b true), (9, .b true), (15, .ok), (16, .b true), (20, .ok), (22, .b true)] [] [] 1000 Try.f40 (bodyOf Try.f40) (mkA isS e 0) [] 0 [] (fun r => r = .bool true) =
    (emit (tightB (a0 e isS 0)) true ∧ emit (looseB (a0 e isS 0)) true ∧ okE (ifP (can (a0 e isS 1))) ∧ emit (eqV (keyV (a0 e isS 0)) (vK (digN (NF (a0 e isS 1)).val))) true ∧
      okE (ifP (inU (a0 e isS 0))) ∧ emit (eqV (vNum (FV (a0 e isS 0))) (a0 e isS 1)) true ∧ Value.bool true = .bool true) := by kernel_rfl
noncomputable def isF (a : List Value) : Bool × Value := (ifP (isP (getD a 0) (getD a 1)), .bool true)
theorem is_ok : FoOk 40 (foOf isS isF) := fo_of' Try.func40 (c := bodyOf Try.f40) (by kernel_rfl) (by kernel_rfl) (fun e => by rfl) fun e hc => by
  have h : isP (a0 e isS 0) (a0 e isS 1) := of_ifP hc
  have hev := is_ev e
  generalize a0 e isS 0 = x at *
  generalize a0 e isS 1 = n at *
  obtain ⟨h1, h2, h3⟩ := h
  have hL := bnd_LL h1
  refine fo_ctr orcS0_ok Try.func40 (by kernel_rfl) ids_mk (of_eq' hev ⟨emit_of (tight_of h1), emit_of (loose_is hL), okE_of h2, emit_of ?_, okE_of (inU_of hL), emit_of ?_, rfl⟩)
  · rw [key_FV hL, h3, keyN_eq, eqV_refl]
  · rw [h3, ← h2, eqV_refl]
noncomputable def orcS1 : Orc := oadd (oadd (oadd orcS0 41 (foOf zeroS ofnF)) 42 (foOf smallS smallnF)) 40 (foOf isS isF)
theorem orcS1_ok : OrcOk Try.prog orcS1 := oadd_ok (oadd_ok (oadd_ok orcS0_ok ofn_ok) smalln_ok) is_ok
theorem of_TT (k : Value) : bnd (ofV k) TT := by
  have l0 : lim (ofV k) 0 = and64 (wordI k 0 8) M51 := rfl
  have l1 : lim (ofV k) 1 = and64 (sh (wordI k 6 8) 3) M51 := rfl
  have l2 : lim (ofV k) 2 = and64 (sh (wordI k 12 8) 6) M51 := rfl
  have l3 : lim (ofV k) 3 = and64 (sh (wordI k 19 8) 1) M51 := rfl
  have l4 : lim (ofV k) 4 = and64 (sh (wordI k 24 8) 12) M51 := rfl
  rw [and_M51] at l0 l1 l2 l3 l4
  unfold bnd TT
  rw [l0, l1, l2, l3, l4]
  refine ⟨⟨by omega, by omega⟩, ⟨by omega, by omega⟩, ⟨by omega, by omega⟩, ⟨by omega, by omega⟩, ⟨by omega, by omega⟩⟩
theorem small_TT {n : Int} (h : 0 ≤ n ∧ n < 4294967296) (k : IntKind) : bnd (smallV (.int k n)) TT := by
  have e : lim (smallV (.int k n)) 0 = n := w64_id (x := n) h.1 (by omega)
  refine ⟨⟨by rw [e]; exact h.1, by rw [e]; unfold TT; omega⟩, ⟨Int.le_refl 0, ?_⟩, ⟨Int.le_refl 0, ?_⟩, ⟨Int.le_refl 0, ?_⟩, ⟨Int.le_refl 0, ?_⟩⟩
  all_goals show (0 : Int) ≤ TT; decide
theorem numV_dOf {f : Nat → Int} : numV (dOf (vK f)) = numV f := by
  unfold numV
  have : numK (dOf (vK f)) = numK f := hn_congr fun j _ hj => lim_vK (by omega)
  rw [this]
theorem isK_dOf {f : Nat → Int} (hf : isK f) : isK (dOf (vK f)) := fun j hj => by
  show isB (lim (vK f) j)
  rw [lim_vK hj]; exact hf j hj
end Go.Proofs.Ythgefjgbkhkmgaa.Ev
