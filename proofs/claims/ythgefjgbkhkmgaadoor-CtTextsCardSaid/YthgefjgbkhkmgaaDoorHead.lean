/-
  What the translation's head says, as a row of signs: read once, for all rows.
-/
import Derived.Test.YthgefjgbkhkmgaaDoorRows
import Derived.ProofKit
namespace Go.Proofs.YthgefjgbkhkmgaaDoor
open Go Go.ChangeShapes Go.WideShapes Go.ChangeAt Go.RowKit

theorem head_text : Tryd.prog.initOrder = "harness 4c9476eddc557131699991991f9c6a832914308671ce144baf343672bd59e3bf cut at sapwood/sapwoodlaw01.CtTexts" := by kernel_rfl
set_option maxRecDepth 100000 in
def headSigns : List Char := [Char.ofNat 104, Char.ofNat 97, Char.ofNat 114, Char.ofNat 110, Char.ofNat 101, Char.ofNat 115, Char.ofNat 115, Char.ofNat 32, Char.ofNat 52, Char.ofNat 99, Char.ofNat 57, Char.ofNat 52, Char.ofNat 55, Char.ofNat 54, Char.ofNat 101, Char.ofNat 100, Char.ofNat 100, Char.ofNat 99, Char.ofNat 53, Char.ofNat 53, Char.ofNat 55, Char.ofNat 49, Char.ofNat 51, Char.ofNat 49, Char.ofNat 54, Char.ofNat 57, Char.ofNat 57, Char.ofNat 57, Char.ofNat 57, Char.ofNat 49, Char.ofNat 57, Char.ofNat 57, Char.ofNat 49, Char.ofNat 102, Char.ofNat 57, Char.ofNat 99, Char.ofNat 54, Char.ofNat 97, Char.ofNat 56, Char.ofNat 51, Char.ofNat 50, Char.ofNat 57, Char.ofNat 49, Char.ofNat 52, Char.ofNat 51, Char.ofNat 48, Char.ofNat 56, Char.ofNat 54, Char.ofNat 55, Char.ofNat 49, Char.ofNat 99, Char.ofNat 101, Char.ofNat 49, Char.ofNat 52, Char.ofNat 52, Char.ofNat 98, Char.ofNat 97, Char.ofNat 102, Char.ofNat 51, Char.ofNat 52, Char.ofNat 51, Char.ofNat 54, Char.ofNat 55, Char.ofNat 50, Char.ofNat 98, Char.ofNat 100, Char.ofNat 53, Char.ofNat 57, Char.ofNat 101, Char.ofNat 51, Char.ofNat 98, Char.ofNat 102, Char.ofNat 32, Char.ofNat 99, Char.ofNat 117, Char.ofNat 116, Char.ofNat 32, Char.ofNat 97, Char.ofNat 116, Char.ofNat 32, Char.ofNat 115, Char.ofNat 97, Char.ofNat 112, Char.ofNat 119, Char.ofNat 111, Char.ofNat 111, Char.ofNat 100, Char.ofNat 47, Char.ofNat 115, Char.ofNat 97, Char.ofNat 112, Char.ofNat 119, Char.ofNat 111, Char.ofNat 111, Char.ofNat 100, Char.ofNat 108, Char.ofNat 97, Char.ofNat 119, Char.ofNat 48, Char.ofNat 49, Char.ofNat 46, Char.ofNat 67, Char.ofNat 116, Char.ofNat 84, Char.ofNat 101, Char.ofNat 120, Char.ofNat 116, Char.ofNat 115]
theorem head_list : "harness 4c9476eddc557131699991991f9c6a832914308671ce144baf343672bd59e3bf cut at sapwood/sapwoodlaw01.CtTexts" = String.ofList headSigns := by kernel_rfl
theorem head_signs : Tryd.prog.initOrder.toList = headSigns := by rw [head_text, head_list, String.toList_ofList]

theorem make_is : Tryd.prog.make = some .cut := by
  refine (Program.make.eq_1 _).trans ?_
  rw [head_signs]
  kernel_rfl
theorem enters_ok : Tryd.prog.mayEnter = true := by
  refine (Program.mayEnter.eq_1 _).trans ?_
  rw [head_signs]
  kernel_rfl
theorem lifts_none : Tryd.prog.headLifts = [] := by
  refine (Program.headLifts.eq_1 _).trans ?_
  rw [head_signs]
  kernel_rfl
theorem no_finals : Tryd.prog.liftsFinal = false := by
  refine (Program.liftsFinal.eq_1 _).trans ?_
  rw [head_signs, lifts_none]
  kernel_rfl
end Go.Proofs.YthgefjgbkhkmgaaDoor

