/-
  The chapter's examples of layer 2, walked.
-/
import Derived.Test.YthgefjgbkhkmgaaKeyE
namespace Go.Proofs.Ythgefjgbkhkmgaa.Ev
open Go Go.RowKit
open Sap (F P toF)
attribute [local irreducible] evC evBody

/-- the modulus, its first byte another one -/
def pK (b : Int) : Nat → Int := fun j => match j with
  | 0 => b
  | 31 => 127
  | _ => 255
theorem aw2_ev (e : Env) : evBody tab orcL2 [(20, .b true), (28, .b true)] [] [] 1000 Try.f33 (bodyOf Try.f33) (mkA [] e 0) [] 0 [] (fun r => r = .bool true) =
    (emit (eqV (keyV (ofV (vK (pK 237)))) zeroK) true ∧ emit (eqV (keyV (subV zE one)) (vK (pK 236))) true ∧ Value.bool true = .bool true) := by kernel_rfl
theorem isK_pK {b : Int} (h : isB b) : isK (pK b) := by
  intro j _
  unfold pK
  split
  · exact h
  · exact ⟨by decide, by decide⟩
  · exact ⟨by decide, by decide⟩
theorem numV_p : numV (pK 237) = 0 := by decide +kernel
theorem aw2_a : eqV (keyV (ofV (vK (pK 237)))) zeroK = true := by
  obtain ⟨h1, h2⟩ := of_FV (isK_pK (b := 237) ⟨by decide, by decide⟩)
  exact key_zero h2 (by rw [h1, numV_p])
theorem aw2_b : eqV (keyV (subV zE one)) (vK (pK 236)) = true := by
  have hz : bnd zE LL := bnd_zE
  rw [key_FV (bnd_sub hz one_val.1), FV_sub hz one_val.1, one_val.2, show FV zE = 0 from FV_zE]
  decide +kernel
theorem aw2_ok : FoOk 33 (foOf [] trueF) := fo_of orcL2_ok Try.func33 (by kernel_rfl) (by kernel_rfl) (fun e => by kernel_rfl) fun e _ => ⟨[], of_eq' (aw2_ev e) ⟨emit_of aw2_a, emit_of aw2_b, rfl⟩⟩
def orcW1 : Orc := oadd orcL2 33 (foOf [] trueF)
theorem orcW1_ok : OrcOk Try.prog orcW1 := oadd_ok orcL2_ok aw2_ok
theorem aw2'_ev (e : Env) : evBody tab orcW1 [] [] [] 1000 Try.f94 (bodyOf Try.f94) (mkA [] e 0) [] 0 [] (fun r => r = .bool true) = (Value.bool true = .bool true) := by kernel_rfl
theorem aw2'_ok : FoOk 94 (foOf [] trueF) := fo_of orcW1_ok Try.func94 (by kernel_rfl) (by kernel_rfl) (fun e => by kernel_rfl) fun e _ => ⟨[], of_eq' (aw2'_ev e) rfl⟩
def orcW2 : Orc := oadd orcW1 94 (foOf [] trueF)
theorem orcW2_ok : OrcOk Try.prog orcW2 := oadd_ok orcW1_ok aw2'_ok
end Go.Proofs.Ythgefjgbkhkmgaa.Ev
