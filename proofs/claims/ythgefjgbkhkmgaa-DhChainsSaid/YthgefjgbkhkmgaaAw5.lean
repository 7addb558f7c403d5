/-
  The chapter's example of layer 5, walked.
-/
import Derived.Test.YthgefjgbkhkmgaaLadW
import Derived.Test.YthgefjgbkhkmgaaAw4
namespace Go.Proofs.Ythgefjgbkhkmgaa.Ev
open Go Go.RowKit
open Sap (F P toF)
attribute [local irreducible] evC evBody

def ladK (k x : Value) : Value := nrm (ladV k x)
theorem ladK_val {x : Value} (hx : bnd x LL) {f : Nat → Int} (hf : isK f) : bnd (ladK (vK f) x) LL ∧ FV (ladK (vK f) x) = Sap.lad 256 (numK f).toNat (FV x) := by
  obtain ⟨h1, h2⟩ := lad_val hx hf
  exact ⟨bnd_nrm h1, by rw [ladK, FV_nrm, h2]⟩
def orcN0 : Orc := oadd orcJ3 101 (foOf [] trueF)
theorem orcN0_ok : OrcOk Try.prog orcN0 := oadd_ok orcJ3_ok aw4'_ok
def nine : Value := smallV (.int .u32 9)
theorem nine_val : bnd nine LL ∧ FV nine = FI 9 := small_lim 9 (by decide) (by decide) .u32
theorem aw5_ev (e : Env) : evBody tab orcN0 [(7, .b true)] [] [] 1000 Try.f69 (bodyOf Try.f69) (mkA [] e 0) [] 0 [] (fun r => r = .bool true) =
    (emit (sameB (keyV (ladK (vK (kB 1)) nine)) (keyV nine)) true ∧ Value.bool true = .bool true) := by kernel_rfl
theorem aw5_a : sameB (keyV (ladK (vK (kB 1)) nine)) (keyV nine) = true := by
  obtain ⟨h1, h2⟩ := ladK_val nine_val.1 (isK_kB (b := 1) ⟨by decide, by decide⟩)
  refine same_eq h1 nine_val.1 ?_
  rw [h2, numK_kB]
  exact Sap.lad_1 (by decide) _
theorem aw5_ok : FoOk 69 (foOf [] trueF) := fo_of orcN0_ok Try.func69 (by kernel_rfl) (by kernel_rfl) (fun e => by kernel_rfl) fun e _ => ⟨[], of_eq' (aw5_ev e) ⟨emit_of aw5_a, rfl⟩⟩
def orcN1 : Orc := oadd orcN0 69 (foOf [] trueF)
theorem orcN1_ok : OrcOk Try.prog orcN1 := oadd_ok orcN0_ok aw5_ok
theorem aw5'_ev (e : Env) : evBody tab orcN1 [] [] [] 1000 Try.f90 (bodyOf Try.f90) (mkA [] e 0) [] 0 [] (fun r => r = .bool true) = (Value.bool true = .bool true) := by kernel_rfl
theorem aw5'_ok : FoOk 90 (foOf [] trueF) := fo_of orcN1_ok Try.func90 (by kernel_rfl) (by kernel_rfl) (fun e => by kernel_rfl) fun e _ => ⟨[], of_eq' (aw5'_ev e) rfl⟩
def orcN2 : Orc := oadd orcN1 70 (foOf k8S k8F)
theorem orcN2_ok : OrcOk Try.prog orcN2 := oadd_ok orcN1_ok k8b_ok
theorem isK_zero : isK (fun _ => 0) := fun _ _ => ⟨Int.le_refl 0, by show (0 : Int) < 256; decide⟩
theorem numK_zero : numK (fun _ => 0) = 0 := rfl
theorem isK_one : isK (kB 1) := isK_kB ⟨by decide, by decide⟩
end Go.Proofs.Ythgefjgbkhkmgaa.Ev
