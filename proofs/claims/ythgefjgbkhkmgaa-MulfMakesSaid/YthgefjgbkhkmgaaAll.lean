/-
  Layer 2 walked: all, Tight, Loose.
-/
import Derived.Test.YthgefjgbkhkmgaaLimb
namespace Go.Proofs.Ythgefjgbkhkmgaa.Ev
open Go Go.RowKit
attribute [local irreducible] evC evBody

def allS : List Sh := [.arr .u64 5, .int .u64]
/-- is no limb above m? -/
def allB (x : Value) (m : Int) : Bool := !decide (lim x 0 > m) && (!decide (lim x 1 > m) && (!decide (lim x 2 > m) && (!decide (lim x 3 > m) && !decide (lim x 4 > m))))
def allF (a : List Value) : Bool × Value := (true, .bool (allB (getD a 0) (intV (getD a 1))))
def gt (e : Env) (i : Nat) : Bool := decide (e.i 0 i > e.i 1 0)
theorem all_5 (e : Env) : evBody tab orc0 [] [13] [] 1000 Try.f87 (bodyOf Try.f87) (mkA allS e 0) [] 0 [false, false, false, false, false] (fun r => r = .bool true) = (gt e 0 = false ∧ gt e 1 = false ∧ gt e 2 = false ∧ gt e 3 = false ∧ gt e 4 = false ∧ Value.bool true = .bool true) := by kernel_rfl
theorem all_0 (e : Env) : evBody tab orc0 [] [13] [] 1000 Try.f87 (bodyOf Try.f87) (mkA allS e 0) [] 0 [true] (fun r => r = .bool false) = (gt e 0 = true ∧ Value.bool false = .bool false) := by kernel_rfl
theorem all_1 (e : Env) : evBody tab orc0 [] [13] [] 1000 Try.f87 (bodyOf Try.f87) (mkA allS e 0) [] 0 [false, true] (fun r => r = .bool false) = (gt e 0 = false ∧ gt e 1 = true ∧ Value.bool false = .bool false) := by kernel_rfl
theorem all_2 (e : Env) : evBody tab orc0 [] [13] [] 1000 Try.f87 (bodyOf Try.f87) (mkA allS e 0) [] 0 [false, false, true] (fun r => r = .bool false) = (gt e 0 = false ∧ gt e 1 = false ∧ gt e 2 = true ∧ Value.bool false = .bool false) := by kernel_rfl
theorem all_3 (e : Env) : evBody tab orc0 [] [13] [] 1000 Try.f87 (bodyOf Try.f87) (mkA allS e 0) [] 0 [false, false, false, true] (fun r => r = .bool false) = (gt e 0 = false ∧ gt e 1 = false ∧ gt e 2 = false ∧ gt e 3 = true ∧ Value.bool false = .bool false) := by kernel_rfl
theorem all_4 (e : Env) : evBody tab orc0 [] [13] [] 1000 Try.f87 (bodyOf Try.f87) (mkA allS e 0) [] 0 [false, false, false, false, true] (fun r => r = .bool false) = (gt e 0 = false ∧ gt e 1 = false ∧ gt e 2 = false ∧ gt e 3 = false ∧ gt e 4 = true ∧ Value.bool false = .bool false) := by kernel_rfl

theorem of_eq2 {p q : Prop} (h : p = q) (hq : q) : p := h.symm ▸ hq
theorem all_ok : FoOk 87 (foOf allS allF) := fo_of' Try.func87 (c := bodyOf Try.f87) (by kernel_rfl) (by kernel_rfl) (fun e => by kernel_rfl) fun e _ => by
  show ∀ g, Ctr Try.prog 87 (mkA allS e 0) g (.bool (!gt e 0 && (!gt e 1 && (!gt e 2 && (!gt e 3 && !gt e 4)))))
  cases h0 : gt e 0 with
  | true => exact fo_ctr orc0_ok Try.func87 (by kernel_rfl) ids_mk (of_eq2 (all_0 e) ⟨h0, rfl⟩)
  | false =>
    cases h1 : gt e 1 with
    | true => exact fo_ctr orc0_ok Try.func87 (by kernel_rfl) ids_mk (of_eq2 (all_1 e) ⟨h0, h1, rfl⟩)
    | false =>
      cases h2 : gt e 2 with
      | true => exact fo_ctr orc0_ok Try.func87 (by kernel_rfl) ids_mk (of_eq2 (all_2 e) ⟨h0, h1, h2, rfl⟩)
      | false =>
        cases h3 : gt e 3 with
        | true => exact fo_ctr orc0_ok Try.func87 (by kernel_rfl) ids_mk (of_eq2 (all_3 e) ⟨h0, h1, h2, h3, rfl⟩)
        | false =>
          cases h4 : gt e 4 with
          | true => exact fo_ctr orc0_ok Try.func87 (by kernel_rfl) ids_mk (of_eq2 (all_4 e) ⟨h0, h1, h2, h3, h4, rfl⟩)
          | false => exact fo_ctr orc0_ok Try.func87 (by kernel_rfl) ids_mk (of_eq2 (all_5 e) ⟨h0, h1, h2, h3, h4, rfl⟩)
def orcA : Orc := oadd orcC 87 (foOf allS allF)
theorem orcA_ok : OrcOk Try.prog orcA := oadd_ok orcC_ok all_ok
def tightB (x : Value) : Bool := allB x 4503599627370496
def looseB (x : Value) : Bool := allB x 18014398509481984
def tightF (a : List Value) : Bool × Value := (true, .bool (tightB (getD a 0)))
def looseF (a : List Value) : Bool × Value := (true, .bool (looseB (getD a 0)))
theorem tight_ev (e : Env) : evBody tab orcA [] [] [] 1000 Try.f38 (bodyOf Try.f38) (mkA elS e 0) [] 0 [] (fun r => r = (tightF (mkA elS e 0)).2) = ((tightF (mkA elS e 0)).2 = (tightF (mkA elS e 0)).2) := by kernel_rfl
theorem loose_ev (e : Env) : evBody tab orcA [] [] [] 1000 Try.f39 (bodyOf Try.f39) (mkA elS e 0) [] 0 [] (fun r => r = (looseF (mkA elS e 0)).2) = ((looseF (mkA elS e 0)).2 = (looseF (mkA elS e 0)).2) := by kernel_rfl
theorem tight_ok : FoOk 38 (foOf elS tightF) := fo_of orcA_ok Try.func38 (by kernel_rfl) (by kernel_rfl) (fun e => by kernel_rfl) fun e _ => ⟨[], by rw [tight_ev]⟩
theorem loose_ok : FoOk 39 (foOf elS looseF) := fo_of orcA_ok Try.func39 (by kernel_rfl) (by kernel_rfl) (fun e => by kernel_rfl) fun e _ => ⟨[], by rw [loose_ev]⟩
end Go.Proofs.Ythgefjgbkhkmgaa.Ev
