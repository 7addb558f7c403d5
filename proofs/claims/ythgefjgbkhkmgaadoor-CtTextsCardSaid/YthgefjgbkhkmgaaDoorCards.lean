/-
  DERIVED. GIVEN WITH THE SEED: THE CARDS: each row of YthgefjgbkhkmgaaDoorRows.lean that lists a variable, with what it lists TIED to the program's text (the seventh form; the later family's looks); each row that meets fmt, with fmt's text TOLD by the authors' own Lean function (tested against real Go, not proved from fmt's source: count such statements apart). THE CARD IS WHAT COUNTS. Prove the row's statement (the work); the ties are given (YthgefjgbkhkmgaaDoorTie.lean); close each card by the builder's one call (the guide's Derived/Test/ToyasCard.lean, 'card_holds'). Laid BY PROGRAM, IN A SANDBOX (cutbox-door.mjs). By AI agents, Wed Nov 11 2026. No macro, syntax, notation, axiom, sorry.
-/
import Derived.Test.YthgefjgbkhkmgaaDoorRows
import GoSem.ClaimSeven
namespace Go.Proofs.YthgefjgbkhkmgaaDoor
namespace Rows

/-- THE TIED CARD OF 'sapwoodlaw01.CtTexts'. -/
def ctTextsCard : Claim7 := { stood := { row := ctTextsRow, standIns := [], harness := (true, "4c9476eddc557131699991991f9c6a832914308671ce144baf343672bd59e3bf"), looks := false }, kinds := [], alts := [], laidByText := true, laidKinds := [.data, .pinned, .pinned], laidTests := true, laidLooks := .later }
def CtTextsCardSaid : Prop := Claim7.holds Tryd.pinned (.plain (OpenSpec.ofChange ctTextsSpec)) ctTextsCard

/-- THE SECOND FORM's CARD OF 'sapwoodlaw01.CtTexts'. -/
def ctTextsUptoCard : Claim7 := { stood := { row := ctTextsUptoRow, standIns := [], harness := (true, "4c9476eddc557131699991991f9c6a832914308671ce144baf343672bd59e3bf"), looks := false }, kinds := [], alts := [], laidByText := true, laidKinds := [.data, .pinned, .pinned], laidTests := true, laidLooks := .later }
def CtTextsUptoCardSaid : Prop := Claim7.holds Tryd.pinned (.plain (OpenSpec.upto ctTextsSpec)) ctTextsUptoCard
end Rows
end Go.Proofs.YthgefjgbkhkmgaaDoor
