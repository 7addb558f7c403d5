/-
  Product of three; the chapter's example of layer 3, walked.
-/
import Derived.Test.YthgefjgbkhkmgaaAw2
namespace Go.Proofs.Ythgefjgbkhkmgaa.Ev
open Go Go.RowKit
open Sap (F P toF)
attribute [local irreducible] evC evBody

def orcV0 : Orc := oadd orcM6 94 (foOf [] trueF)
theorem orcV0_ok : OrcOk Try.prog orcV0 := oadd_ok orcM6_ok aw2'_ok
def prod3V (l : List Value) : Value := mulV (mulV (mulV one (.agg (l.take 5).toArray)) (.agg ((l.drop 5).take 5).toArray)) (.agg ((l.drop 10).take 5).toArray)
theorem prod3_ev (φ : Nat → Int) : evBody tab orcM6 [] [] [] 1000 Try.f57 (bodyOf Try.f57) [sl3] (hp3 φ) 1 [] (fun r => r = prod3V (cellsOf .u64 φ 15 0)) = (prod3V (cellsOf .u64 φ 15 0) = prod3V (cellsOf .u64 φ 15 0)) := by kernel_rfl
theorem prod3_ok : HoOk 57 (row3 prod3V) := row3_ok orcM6_ok Try.func57 (c := bodyOf Try.f57) (by kernel_rfl) (by kernel_rfl) (fun φ => by kernel_rfl) fun φ => by rw [prod3_ev]
def orcV1 : Orc := oaddH orcV0 57 (row3 prod3V)
theorem orcV1_ok : OrcOk Try.prog orcV1 := oaddH_ok orcV0_ok prod3_ok
def s3V (a b c : Value) : Value := addV (addV (addV zE a) b) c
def p3V (a b c : Value) : Value := mulV (mulV (mulV one a) b) c

def k64 : Nat → Int := fun j => match j with
  | 31 => 64
  | _ => 0
def k19 : Nat → Int := fun j => match j with
  | 0 => 19
  | _ => 0
theorem aw3_ev (e : Env) : evBody tab orcV1 [(9, .b true)] [] [] 1000 Try.f53 (bodyOf Try.f53) (mkA [] e 0) [] 0 [] (fun r => r = .bool true) =
    (emit (eqV (keyV (mulV (smallV (.int .u32 2)) (ofV (vK k64)))) (vK k19)) true ∧ Value.bool true = .bool true) := by kernel_rfl
theorem isK_k64 : isK k64 := by
  intro j _
  unfold k64
  split
  · exact ⟨by decide, by decide⟩
  · exact ⟨by decide, by decide⟩
theorem aw3_a : eqV (keyV (mulV (smallV (.int .u32 2)) (ofV (vK k64)))) (vK k19) = true := by
  have h := small_lim 2 (by decide) (by decide) .u32
  obtain ⟨h1, h2⟩ := of_FV isK_k64
  have m := mul_FV h.1 h2
  rw [key_FV (bnd_LL m.2), m.1, h.2, h1]
  decide +kernel
theorem aw3_ok : FoOk 53 (foOf [] trueF) := fo_of orcV1_ok Try.func53 (by kernel_rfl) (by kernel_rfl) (fun e => by kernel_rfl) fun e _ => ⟨[], of_eq' (aw3_ev e) ⟨emit_of aw3_a, rfl⟩⟩
def orcV2 : Orc := oadd orcV1 53 (foOf [] trueF)
theorem orcV2_ok : OrcOk Try.prog orcV2 := oadd_ok orcV1_ok aw3_ok
theorem aw3'_ev (e : Env) : evBody tab orcV2 [] [] [] 1000 Try.f97 (bodyOf Try.f97) (mkA [] e 0) [] 0 [] (fun r => r = .bool true) = (Value.bool true = .bool true) := by kernel_rfl
theorem aw3'_ok : FoOk 97 (foOf [] trueF) := fo_of orcV2_ok Try.func97 (by kernel_rfl) (by kernel_rfl) (fun e => by kernel_rfl) fun e _ => ⟨[], of_eq' (aw3'_ev e) rfl⟩
def orcV3 : Orc := oadd orcV2 97 (foOf [] trueF)
theorem orcV3_ok : OrcOk Try.prog orcV3 := oadd_ok orcV2_ok aw3'_ok
theorem FI_2 : FI 2 = 2 := by decide +kernel
theorem FI_4 : FI 4 = 4 := by decide +kernel
theorem emit_ne {b : Bool} (h : b = true) : emit (!b) false := by subst h; rfl
def el3S : List Sh := [.arr .u64 5, .arr .u64 5, .arr .u64 5]
end Go.Proofs.Ythgefjgbkhkmgaa.Ev
