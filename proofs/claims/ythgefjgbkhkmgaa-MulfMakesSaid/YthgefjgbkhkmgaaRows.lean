/-
  No cell of these rows narrows 'for every input' (looked for: loops, veiled, ifaces, maps, wideKeys, modest, calm, conditions, laid).
  DERIVED. THE GIVEN ROWS OF THIS SEAT. 24 by the template 'for every input the law returns true; each argument reads behind the call as it read before'; 0 by the template 'total and deterministic' (their statements: YthgefjgbkhkmgaaTotals.lean).
  GIVEN WITH THE SEED: the statements are not yours to turn. If you find one false, say at which input.
  Laid BY PROGRAM, IN A SANDBOX (cutbox-rows.mjs): the forced cells as the released guide's own fill.sh prints them over the translation 4ab9984f0464ea6f… (all of the seat's roots in one cut). By AI agents, Wed Nov 11 2026. No macro, syntax, notation, axiom, sorry.
-/
import Derived.Test.YthgefjgbkhkmgaaChecked
import GoSem.Claim
import GoSem.ClaimJoined
import GoSem.ClaimMapViews
import Derived.JoinedTies
import Derived.KernelRfl
namespace Go.Proofs.Ythgefjgbkhkmgaa
/- THE CELL 'sum', in the pinned program and in every row, IS THE sha256 OF THE DUMP (.gsa) THAT YthgefjgbkhkmgaaProg.lean LOADS. Nothing in Lean hashes anything: it is a label: what it is worth is what the hold of that sum in a sandbox is worth. -/
noncomputable def Try.pinned : Pinned := { name := "ythgefjgbkhkmgaa", sum := "4ab9984f0464ea6f9ffa63220b29f35c27306bdd342d4d0f2e363ffa4378dbab", checked := Try.checked }
namespace Rows
def none {H : Type} : Left H := { results := [], args := [] }

/-- 'sapwoodlaw01.CtPicks': WHATEVER THE INPUT: true; the input reads as it did. -/
def ctPicksSpec : ChangeSpec := { name := "ctPicks", fn := fun _ => fun
  | [d1, d2, d3] => { results := [.lit (.bool true)], args := [d1, d2, d3] }
  | _ => none }
def ctPicksRow : OpenClaim := { program := "ythgefjgbkhkmgaa", sum := "4ab9984f0464ea6f9ffa63220b29f35c27306bdd342d4d0f2e363ffa4378dbab", func := "sapwood/sapwoodlaw01.CtPicks", spec := "ctPicks", inPlace := ["internal/abi.NoEscape", "internal/bytealg.MakeNoZero"], apart := false }
def CtPicksSaid : Prop := ctPicksRow.holds Try.pinned (OpenSpec.ofChange ctPicksSpec)

/-- ITS FALSE NEIGHBOUR: 'it returns false'. Refute it at one input. -/
def ctPicksWrong : ChangeSpec := { name := "ctPicks", fn := fun _ => fun
  | [d1, d2, d3] => { results := [.lit (.bool false)], args := [d1, d2, d3] }
  | _ => none }
def CtPicksWrongFalsely : Prop := ctPicksRow.holds Try.pinned (OpenSpec.ofChange ctPicksWrong)

/-- 'sapwoodlaw01.CtCompares': WHATEVER THE INPUT: true; the input reads as it did. -/
def ctComparesSpec : ChangeSpec := { name := "ctCompares", fn := fun _ => fun
  | [d1, d2, d3, d4] => { results := [.lit (.bool true)], args := [d1, d2, d3, d4] }
  | _ => none }
def ctComparesRow : OpenClaim := { program := "ythgefjgbkhkmgaa", sum := "4ab9984f0464ea6f9ffa63220b29f35c27306bdd342d4d0f2e363ffa4378dbab", func := "sapwood/sapwoodlaw01.CtCompares", spec := "ctCompares", inPlace := ["internal/abi.NoEscape", "internal/bytealg.MakeNoZero"], apart := false }
def CtComparesSaid : Prop := ctComparesRow.holds Try.pinned (OpenSpec.ofChange ctComparesSpec)

/-- ITS FALSE NEIGHBOUR: 'it returns false'. Refute it at one input. -/
def ctComparesWrong : ChangeSpec := { name := "ctCompares", fn := fun _ => fun
  | [d1, d2, d3, d4] => { results := [.lit (.bool false)], args := [d1, d2, d3, d4] }
  | _ => none }
def CtComparesWrongFalsely : Prop := ctComparesRow.holds Try.pinned (OpenSpec.ofChange ctComparesWrong)

/-- 'sapwoodlaw01.CtOnce': WHATEVER THE INPUT: true; the input reads as it did. -/
def ctOnceSpec : ChangeSpec := { name := "ctOnce", fn := fun _ => fun
  | [d1, d2, d3, d4, d5] => { results := [.lit (.bool true)], args := [d1, d2, d3, d4, d5] }
  | _ => none }
def ctOnceRow : OpenClaim := { program := "ythgefjgbkhkmgaa", sum := "4ab9984f0464ea6f9ffa63220b29f35c27306bdd342d4d0f2e363ffa4378dbab", func := "sapwood/sapwoodlaw01.CtOnce", spec := "ctOnce", inPlace := ["internal/abi.NoEscape", "internal/bytealg.MakeNoZero"], apart := false }
def CtOnceSaid : Prop := ctOnceRow.holds Try.pinned (OpenSpec.ofChange ctOnceSpec)

/-- ITS FALSE NEIGHBOUR: 'it returns false'. Refute it at one input. -/
def ctOnceWrong : ChangeSpec := { name := "ctOnce", fn := fun _ => fun
  | [d1, d2, d3, d4, d5] => { results := [.lit (.bool false)], args := [d1, d2, d3, d4, d5] }
  | _ => none }
def CtOnceWrongFalsely : Prop := ctOnceRow.holds Try.pinned (OpenSpec.ofChange ctOnceWrong)

/-- 'sapwoodlaw02.LimbModulus': WHATEVER THE INPUT: true; the input reads as it did. -/
def limbModulusSpec : ChangeSpec := { name := "limbModulus", fn := fun _ => fun
  | [d1, d2] => { results := [.lit (.bool true)], args := [d1, d2] }
  | _ => none }
def limbModulusRow : OpenClaim := { program := "ythgefjgbkhkmgaa", sum := "4ab9984f0464ea6f9ffa63220b29f35c27306bdd342d4d0f2e363ffa4378dbab", func := "sapwood/sapwoodlaw02.LimbModulus", spec := "limbModulus", inPlace := ["internal/abi.NoEscape", "internal/bytealg.MakeNoZero"], apart := false }
def LimbModulusSaid : Prop := limbModulusRow.holds Try.pinned (OpenSpec.ofChange limbModulusSpec)

/-- ITS FALSE NEIGHBOUR: 'it returns false'. Refute it at one input. -/
def limbModulusWrong : ChangeSpec := { name := "limbModulus", fn := fun _ => fun
  | [d1, d2] => { results := [.lit (.bool false)], args := [d1, d2] }
  | _ => none }
def LimbModulusWrongFalsely : Prop := limbModulusRow.holds Try.pinned (OpenSpec.ofChange limbModulusWrong)

/-- 'sapwoodlaw02.LimbReads': WHATEVER THE INPUT: true; the input reads as it did. -/
def limbReadsSpec : ChangeSpec := { name := "limbReads", fn := fun _ => fun
  | [d1, d2, d3] => { results := [.lit (.bool true)], args := [d1, d2, d3] }
  | _ => none }
def limbReadsRow : OpenClaim := { program := "ythgefjgbkhkmgaa", sum := "4ab9984f0464ea6f9ffa63220b29f35c27306bdd342d4d0f2e363ffa4378dbab", func := "sapwood/sapwoodlaw02.LimbReads", spec := "limbReads", inPlace := ["internal/abi.NoEscape", "internal/bytealg.MakeNoZero"], apart := false }
def LimbReadsSaid : Prop := limbReadsRow.holds Try.pinned (OpenSpec.ofChange limbReadsSpec)

/-- ITS FALSE NEIGHBOUR: 'it returns false'. Refute it at one input. -/
def limbReadsWrong : ChangeSpec := { name := "limbReads", fn := fun _ => fun
  | [d1, d2, d3] => { results := [.lit (.bool false)], args := [d1, d2, d3] }
  | _ => none }
def LimbReadsWrongFalsely : Prop := limbReadsRow.holds Try.pinned (OpenSpec.ofChange limbReadsWrong)

/-- 'sapwoodlaw02.LimbLaws': WHATEVER THE INPUT: true; the input reads as it did. -/
def limbLawsSpec : ChangeSpec := { name := "limbLaws", fn := fun _ => fun
  | [d1, d2, d3] => { results := [.lit (.bool true)], args := [d1, d2, d3] }
  | _ => none }
def limbLawsRow : OpenClaim := { program := "ythgefjgbkhkmgaa", sum := "4ab9984f0464ea6f9ffa63220b29f35c27306bdd342d4d0f2e363ffa4378dbab", func := "sapwood/sapwoodlaw02.LimbLaws", spec := "limbLaws", inPlace := ["internal/abi.NoEscape", "internal/bytealg.MakeNoZero"], apart := false }
def LimbLawsSaid : Prop := limbLawsRow.holds Try.pinned (OpenSpec.ofChange limbLawsSpec)

/-- ITS FALSE NEIGHBOUR: 'it returns false'. Refute it at one input. -/
def limbLawsWrong : ChangeSpec := { name := "limbLaws", fn := fun _ => fun
  | [d1, d2, d3] => { results := [.lit (.bool false)], args := [d1, d2, d3] }
  | _ => none }
def LimbLawsWrongFalsely : Prop := limbLawsRow.holds Try.pinned (OpenSpec.ofChange limbLawsWrong)

/-- 'sapwoodlaw06.DhChains': WHATEVER THE INPUT: true; the input reads as it did. -/
def dhChainsSpec : ChangeSpec := { name := "dhChains", fn := fun _ => fun
  | [d1, d2, d3, d4] => { results := [.lit (.bool true)], args := [d1, d2, d3, d4] }
  | _ => none }
def dhChainsRow : OpenClaim := { program := "ythgefjgbkhkmgaa", sum := "4ab9984f0464ea6f9ffa63220b29f35c27306bdd342d4d0f2e363ffa4378dbab", func := "sapwood/sapwoodlaw06.DhChains", spec := "dhChains", inPlace := ["internal/abi.NoEscape", "internal/bytealg.MakeNoZero", "math/bits.Add64"], apart := false }
def DhChainsSaid : Prop := dhChainsRow.holds Try.pinned (OpenSpec.ofChange dhChainsSpec)

/-- ITS FALSE NEIGHBOUR: 'it returns false'. Refute it at one input. -/
def dhChainsWrong : ChangeSpec := { name := "dhChains", fn := fun _ => fun
  | [d1, d2, d3, d4] => { results := [.lit (.bool false)], args := [d1, d2, d3, d4] }
  | _ => none }
def DhChainsWrongFalsely : Prop := dhChainsRow.holds Try.pinned (OpenSpec.ofChange dhChainsWrong)

/-- 'sapwoodlaw02.LimbAdds': WHATEVER THE INPUT: true; the input reads as it did. -/
def limbAddsSpec : ChangeSpec := { name := "limbAdds", fn := fun _ => fun
  | [d1, d2, d3] => { results := [.lit (.bool true)], args := [d1, d2, d3] }
  | _ => none }
def limbAddsRow : OpenClaim := { program := "ythgefjgbkhkmgaa", sum := "4ab9984f0464ea6f9ffa63220b29f35c27306bdd342d4d0f2e363ffa4378dbab", func := "sapwood/sapwoodlaw02.LimbAdds", spec := "limbAdds", inPlace := ["internal/abi.NoEscape", "internal/bytealg.MakeNoZero"], apart := false }
def LimbAddsSaid : Prop := limbAddsRow.holds Try.pinned (OpenSpec.ofChange limbAddsSpec)

/-- ITS FALSE NEIGHBOUR: 'it returns false'. Refute it at one input. -/
def limbAddsWrong : ChangeSpec := { name := "limbAdds", fn := fun _ => fun
  | [d1, d2, d3] => { results := [.lit (.bool false)], args := [d1, d2, d3] }
  | _ => none }
def LimbAddsWrongFalsely : Prop := limbAddsRow.holds Try.pinned (OpenSpec.ofChange limbAddsWrong)

/-- 'sapwoodlaw03.MulfAlike': WHATEVER THE INPUT: true; the input reads as it did. -/
def mulfAlikeSpec : ChangeSpec := { name := "mulfAlike", fn := fun _ => fun
  | [d1, d2] => { results := [.lit (.bool true)], args := [d1, d2] }
  | _ => none }
def mulfAlikeRow : OpenClaim := { program := "ythgefjgbkhkmgaa", sum := "4ab9984f0464ea6f9ffa63220b29f35c27306bdd342d4d0f2e363ffa4378dbab", func := "sapwood/sapwoodlaw03.MulfAlike", spec := "mulfAlike", inPlace := ["internal/abi.NoEscape", "internal/bytealg.MakeNoZero", "math/bits.Add64"], apart := false }
def MulfAlikeSaid : Prop := mulfAlikeRow.holds Try.pinned (OpenSpec.ofChange mulfAlikeSpec)

/-- ITS FALSE NEIGHBOUR: 'it returns false'. Refute it at one input. -/
def mulfAlikeWrong : ChangeSpec := { name := "mulfAlike", fn := fun _ => fun
  | [d1, d2] => { results := [.lit (.bool false)], args := [d1, d2] }
  | _ => none }
def MulfAlikeWrongFalsely : Prop := mulfAlikeRow.holds Try.pinned (OpenSpec.ofChange mulfAlikeWrong)

/-- 'sapwoodlaw03.MulfLaws': WHATEVER THE INPUT: true; the input reads as it did. -/
def mulfLawsSpec : ChangeSpec := { name := "mulfLaws", fn := fun _ => fun
  | [d1, d2, d3] => { results := [.lit (.bool true)], args := [d1, d2, d3] }
  | _ => none }
def mulfLawsRow : OpenClaim := { program := "ythgefjgbkhkmgaa", sum := "4ab9984f0464ea6f9ffa63220b29f35c27306bdd342d4d0f2e363ffa4378dbab", func := "sapwood/sapwoodlaw03.MulfLaws", spec := "mulfLaws", inPlace := ["internal/abi.NoEscape", "internal/bytealg.MakeNoZero", "math/bits.Add64"], apart := false }
def MulfLawsSaid : Prop := mulfLawsRow.holds Try.pinned (OpenSpec.ofChange mulfLawsSpec)

/-- ITS FALSE NEIGHBOUR: 'it returns false'. Refute it at one input. -/
def mulfLawsWrong : ChangeSpec := { name := "mulfLaws", fn := fun _ => fun
  | [d1, d2, d3] => { results := [.lit (.bool false)], args := [d1, d2, d3] }
  | _ => none }
def MulfLawsWrongFalsely : Prop := mulfLawsRow.holds Try.pinned (OpenSpec.ofChange mulfLawsWrong)

/-- 'sapwoodlaw03.MulfFactors': WHATEVER THE INPUT: true; the input reads as it did. -/
def mulfFactorsSpec : ChangeSpec := { name := "mulfFactors", fn := fun _ => fun
  | [d1, d2] => { results := [.lit (.bool true)], args := [d1, d2] }
  | _ => none }
def mulfFactorsRow : OpenClaim := { program := "ythgefjgbkhkmgaa", sum := "4ab9984f0464ea6f9ffa63220b29f35c27306bdd342d4d0f2e363ffa4378dbab", func := "sapwood/sapwoodlaw03.MulfFactors", spec := "mulfFactors", inPlace := ["internal/abi.NoEscape", "internal/bytealg.MakeNoZero", "math/bits.Add64"], apart := false }
def MulfFactorsSaid : Prop := mulfFactorsRow.holds Try.pinned (OpenSpec.ofChange mulfFactorsSpec)

/-- ITS FALSE NEIGHBOUR: 'it returns false'. Refute it at one input. -/
def mulfFactorsWrong : ChangeSpec := { name := "mulfFactors", fn := fun _ => fun
  | [d1, d2] => { results := [.lit (.bool false)], args := [d1, d2] }
  | _ => none }
def MulfFactorsWrongFalsely : Prop := mulfFactorsRow.holds Try.pinned (OpenSpec.ofChange mulfFactorsWrong)

/-- 'sapwoodlaw03.MulfMakes': WHATEVER THE INPUT: true; the input reads as it did. -/
def mulfMakesSpec : ChangeSpec := { name := "mulfMakes", fn := fun _ => fun
  | [d1, d2, d3, d4] => { results := [.lit (.bool true)], args := [d1, d2, d3, d4] }
  | _ => none }
def mulfMakesRow : OpenClaim := { program := "ythgefjgbkhkmgaa", sum := "4ab9984f0464ea6f9ffa63220b29f35c27306bdd342d4d0f2e363ffa4378dbab", func := "sapwood/sapwoodlaw03.MulfMakes", spec := "mulfMakes", inPlace := ["internal/abi.NoEscape", "internal/bytealg.MakeNoZero", "math/bits.Add64"], apart := false }
def MulfMakesSaid : Prop := mulfMakesRow.holds Try.pinned (OpenSpec.ofChange mulfMakesSpec)

/-- ITS FALSE NEIGHBOUR: 'it returns false'. Refute it at one input. -/
def mulfMakesWrong : ChangeSpec := { name := "mulfMakes", fn := fun _ => fun
  | [d1, d2, d3, d4] => { results := [.lit (.bool false)], args := [d1, d2, d3, d4] }
  | _ => none }
def MulfMakesWrongFalsely : Prop := mulfMakesRow.holds Try.pinned (OpenSpec.ofChange mulfMakesWrong)

/-- 'sapwoodlaw04.InvPowers': WHATEVER THE INPUT: true; the input reads as it did. -/
def invPowersSpec : ChangeSpec := { name := "invPowers", fn := fun _ => fun
  | [d1, d2, d3] => { results := [.lit (.bool true)], args := [d1, d2, d3] }
  | _ => none }
def invPowersRow : OpenClaim := { program := "ythgefjgbkhkmgaa", sum := "4ab9984f0464ea6f9ffa63220b29f35c27306bdd342d4d0f2e363ffa4378dbab", func := "sapwood/sapwoodlaw04.InvPowers", spec := "invPowers", inPlace := ["internal/abi.NoEscape", "internal/bytealg.MakeNoZero", "math/bits.Add64"], unfollowed := true, recurses := true, apart := false }
def InvPowersSaid : Prop := invPowersRow.holds Try.pinned (OpenSpec.ofChange invPowersSpec)

/-- ITS FALSE NEIGHBOUR: 'it returns false'. Refute it at one input. -/
def invPowersWrong : ChangeSpec := { name := "invPowers", fn := fun _ => fun
  | [d1, d2, d3] => { results := [.lit (.bool false)], args := [d1, d2, d3] }
  | _ => none }
def InvPowersWrongFalsely : Prop := invPowersRow.holds Try.pinned (OpenSpec.ofChange invPowersWrong)

/-- 'sapwoodlaw04.InvUndoes': WHATEVER THE INPUT: true; the input reads as it did. -/
def invUndoesSpec : ChangeSpec := { name := "invUndoes", fn := fun _ => fun
  | [d1, d2] => { results := [.lit (.bool true)], args := [d1, d2] }
  | _ => none }
def invUndoesRow : OpenClaim := { program := "ythgefjgbkhkmgaa", sum := "4ab9984f0464ea6f9ffa63220b29f35c27306bdd342d4d0f2e363ffa4378dbab", func := "sapwood/sapwoodlaw04.InvUndoes", spec := "invUndoes", inPlace := ["internal/abi.NoEscape", "internal/bytealg.MakeNoZero", "math/bits.Add64"], apart := false }
def InvUndoesSaid : Prop := invUndoesRow.holds Try.pinned (OpenSpec.ofChange invUndoesSpec)

/-- ITS FALSE NEIGHBOUR: 'it returns false'. Refute it at one input. -/
def invUndoesWrong : ChangeSpec := { name := "invUndoes", fn := fun _ => fun
  | [d1, d2] => { results := [.lit (.bool false)], args := [d1, d2] }
  | _ => none }
def InvUndoesWrongFalsely : Prop := invUndoesRow.holds Try.pinned (OpenSpec.ofChange invUndoesWrong)

/-- 'sapwoodlaw04.InvSwaps': WHATEVER THE INPUT: true; the input reads as it did. -/
def invSwapsSpec : ChangeSpec := { name := "invSwaps", fn := fun _ => fun
  | [d1, d2, d3] => { results := [.lit (.bool true)], args := [d1, d2, d3] }
  | _ => none }
def invSwapsRow : OpenClaim := { program := "ythgefjgbkhkmgaa", sum := "4ab9984f0464ea6f9ffa63220b29f35c27306bdd342d4d0f2e363ffa4378dbab", func := "sapwood/sapwoodlaw04.InvSwaps", spec := "invSwaps", inPlace := ["internal/abi.NoEscape", "internal/bytealg.MakeNoZero", "math/bits.Add64"], apart := false }
def InvSwapsSaid : Prop := invSwapsRow.holds Try.pinned (OpenSpec.ofChange invSwapsSpec)

/-- ITS FALSE NEIGHBOUR: 'it returns false'. Refute it at one input. -/
def invSwapsWrong : ChangeSpec := { name := "invSwaps", fn := fun _ => fun
  | [d1, d2, d3] => { results := [.lit (.bool false)], args := [d1, d2, d3] }
  | _ => none }
def InvSwapsWrongFalsely : Prop := invSwapsRow.holds Try.pinned (OpenSpec.ofChange invSwapsWrong)

/-- 'sapwoodlaw04.InvMakes': WHATEVER THE INPUT: true; the input reads as it did. -/
def invMakesSpec : ChangeSpec := { name := "invMakes", fn := fun _ => fun
  | [d1, d2, d3, d4] => { results := [.lit (.bool true)], args := [d1, d2, d3, d4] }
  | _ => none }
def invMakesRow : OpenClaim := { program := "ythgefjgbkhkmgaa", sum := "4ab9984f0464ea6f9ffa63220b29f35c27306bdd342d4d0f2e363ffa4378dbab", func := "sapwood/sapwoodlaw04.InvMakes", spec := "invMakes", inPlace := ["internal/abi.NoEscape", "internal/bytealg.MakeNoZero", "math/bits.Add64"], apart := false }
def InvMakesSaid : Prop := invMakesRow.holds Try.pinned (OpenSpec.ofChange invMakesSpec)

/-- ITS FALSE NEIGHBOUR: 'it returns false'. Refute it at one input. -/
def invMakesWrong : ChangeSpec := { name := "invMakes", fn := fun _ => fun
  | [d1, d2, d3, d4] => { results := [.lit (.bool false)], args := [d1, d2, d3, d4] }
  | _ => none }
def InvMakesWrongFalsely : Prop := invMakesRow.holds Try.pinned (OpenSpec.ofChange invMakesWrong)

/-- 'sapwoodlaw05.LadderTwice': WHATEVER THE INPUT: true; the input reads as it did. -/
def ladderTwiceSpec : ChangeSpec := { name := "ladderTwice", fn := fun _ => fun
  | [d1, d2] => { results := [.lit (.bool true)], args := [d1, d2] }
  | _ => none }
def ladderTwiceRow : OpenClaim := { program := "ythgefjgbkhkmgaa", sum := "4ab9984f0464ea6f9ffa63220b29f35c27306bdd342d4d0f2e363ffa4378dbab", func := "sapwood/sapwoodlaw05.LadderTwice", spec := "ladderTwice", inPlace := ["internal/abi.NoEscape", "internal/bytealg.MakeNoZero", "math/bits.Add64"], unfollowed := true, recurses := true, apart := false }
def LadderTwiceSaid : Prop := ladderTwiceRow.holds Try.pinned (OpenSpec.ofChange ladderTwiceSpec)

/-- ITS FALSE NEIGHBOUR: 'it returns false'. Refute it at one input. -/
def ladderTwiceWrong : ChangeSpec := { name := "ladderTwice", fn := fun _ => fun
  | [d1, d2] => { results := [.lit (.bool false)], args := [d1, d2] }
  | _ => none }
def LadderTwiceWrongFalsely : Prop := ladderTwiceRow.holds Try.pinned (OpenSpec.ofChange ladderTwiceWrong)

/-- 'sapwoodlaw05.LadderTimes': WHATEVER THE INPUT: true; the input reads as it did. -/
def ladderTimesSpec : ChangeSpec := { name := "ladderTimes", fn := fun _ => fun
  | [d1, d2] => { results := [.lit (.bool true)], args := [d1, d2] }
  | _ => none }
def ladderTimesRow : OpenClaim := { program := "ythgefjgbkhkmgaa", sum := "4ab9984f0464ea6f9ffa63220b29f35c27306bdd342d4d0f2e363ffa4378dbab", func := "sapwood/sapwoodlaw05.LadderTimes", spec := "ladderTimes", inPlace := ["internal/abi.NoEscape", "internal/bytealg.MakeNoZero", "math/bits.Add64"], apart := false }
def LadderTimesSaid : Prop := ladderTimesRow.holds Try.pinned (OpenSpec.ofChange ladderTimesSpec)

/-- ITS FALSE NEIGHBOUR: 'it returns false'. Refute it at one input. -/
def ladderTimesWrong : ChangeSpec := { name := "ladderTimes", fn := fun _ => fun
  | [d1, d2] => { results := [.lit (.bool false)], args := [d1, d2] }
  | _ => none }
def LadderTimesWrongFalsely : Prop := ladderTimesRow.holds Try.pinned (OpenSpec.ofChange ladderTimesWrong)

/-- 'sapwoodlaw05.LadderSteps': WHATEVER THE INPUT: true; the input reads as it did. -/
def ladderStepsSpec : ChangeSpec := { name := "ladderSteps", fn := fun _ => fun
  | [d1, d2, d3] => { results := [.lit (.bool true)], args := [d1, d2, d3] }
  | _ => none }
def ladderStepsRow : OpenClaim := { program := "ythgefjgbkhkmgaa", sum := "4ab9984f0464ea6f9ffa63220b29f35c27306bdd342d4d0f2e363ffa4378dbab", func := "sapwood/sapwoodlaw05.LadderSteps", spec := "ladderSteps", inPlace := ["internal/abi.NoEscape", "internal/bytealg.MakeNoZero", "math/bits.Add64"], apart := false }
def LadderStepsSaid : Prop := ladderStepsRow.holds Try.pinned (OpenSpec.ofChange ladderStepsSpec)

/-- ITS FALSE NEIGHBOUR: 'it returns false'. Refute it at one input. -/
def ladderStepsWrong : ChangeSpec := { name := "ladderSteps", fn := fun _ => fun
  | [d1, d2, d3] => { results := [.lit (.bool false)], args := [d1, d2, d3] }
  | _ => none }
def LadderStepsWrongFalsely : Prop := ladderStepsRow.holds Try.pinned (OpenSpec.ofChange ladderStepsWrong)

/-- 'sapwoodlaw05.LadderOrder': WHATEVER THE INPUT: true; the input reads as it did. -/
def ladderOrderSpec : ChangeSpec := { name := "ladderOrder", fn := fun _ => fun
  | [d1, d2, d3] => { results := [.lit (.bool true)], args := [d1, d2, d3] }
  | _ => none }
def ladderOrderRow : OpenClaim := { program := "ythgefjgbkhkmgaa", sum := "4ab9984f0464ea6f9ffa63220b29f35c27306bdd342d4d0f2e363ffa4378dbab", func := "sapwood/sapwoodlaw05.LadderOrder", spec := "ladderOrder", inPlace := ["internal/abi.NoEscape", "internal/bytealg.MakeNoZero", "math/bits.Add64"], apart := false }
def LadderOrderSaid : Prop := ladderOrderRow.holds Try.pinned (OpenSpec.ofChange ladderOrderSpec)

/-- ITS FALSE NEIGHBOUR: 'it returns false'. Refute it at one input. -/
def ladderOrderWrong : ChangeSpec := { name := "ladderOrder", fn := fun _ => fun
  | [d1, d2, d3] => { results := [.lit (.bool false)], args := [d1, d2, d3] }
  | _ => none }
def LadderOrderWrongFalsely : Prop := ladderOrderRow.holds Try.pinned (OpenSpec.ofChange ladderOrderWrong)

/-- 'sapwoodlaw06.DhZero': WHATEVER THE INPUT: true; the input reads as it did. -/
def dhZeroSpec : ChangeSpec := { name := "dhZero", fn := fun _ => fun
  | [d] => { results := [.lit (.bool true)], args := [d] }
  | _ => none }
def dhZeroRow : OpenClaim := { program := "ythgefjgbkhkmgaa", sum := "4ab9984f0464ea6f9ffa63220b29f35c27306bdd342d4d0f2e363ffa4378dbab", func := "sapwood/sapwoodlaw06.DhZero", spec := "dhZero", inPlace := ["internal/abi.NoEscape", "internal/bytealg.MakeNoZero", "math/bits.Add64"], apart := false }
def DhZeroSaid : Prop := dhZeroRow.holds Try.pinned (OpenSpec.ofChange dhZeroSpec)

/-- ITS FALSE NEIGHBOUR: 'it returns false'. Refute it at one input. -/
def dhZeroWrong : ChangeSpec := { name := "dhZero", fn := fun _ => fun
  | [d] => { results := [.lit (.bool false)], args := [d] }
  | _ => none }
def DhZeroWrongFalsely : Prop := dhZeroRow.holds Try.pinned (OpenSpec.ofChange dhZeroWrong)

/-- 'sapwoodlaw06.DhMakes': WHATEVER THE INPUT: true; the input reads as it did. -/
def dhMakesSpec : ChangeSpec := { name := "dhMakes", fn := fun _ => fun
  | [d1, d2] => { results := [.lit (.bool true)], args := [d1, d2] }
  | _ => none }
def dhMakesRow : OpenClaim := { program := "ythgefjgbkhkmgaa", sum := "4ab9984f0464ea6f9ffa63220b29f35c27306bdd342d4d0f2e363ffa4378dbab", func := "sapwood/sapwoodlaw06.DhMakes", spec := "dhMakes", inPlace := ["internal/abi.NoEscape", "internal/bytealg.MakeNoZero", "math/bits.Add64"], apart := false }
def DhMakesSaid : Prop := dhMakesRow.holds Try.pinned (OpenSpec.ofChange dhMakesSpec)

/-- ITS FALSE NEIGHBOUR: 'it returns false'. Refute it at one input. -/
def dhMakesWrong : ChangeSpec := { name := "dhMakes", fn := fun _ => fun
  | [d1, d2] => { results := [.lit (.bool false)], args := [d1, d2] }
  | _ => none }
def DhMakesWrongFalsely : Prop := dhMakesRow.holds Try.pinned (OpenSpec.ofChange dhMakesWrong)

/-- 'sapwoodlaw06.DhAgrees': WHATEVER THE INPUT: true; the input reads as it did. -/
def dhAgreesSpec : ChangeSpec := { name := "dhAgrees", fn := fun _ => fun
  | [d1, d2, d3] => { results := [.lit (.bool true)], args := [d1, d2, d3] }
  | _ => none }
def dhAgreesRow : OpenClaim := { program := "ythgefjgbkhkmgaa", sum := "4ab9984f0464ea6f9ffa63220b29f35c27306bdd342d4d0f2e363ffa4378dbab", func := "sapwood/sapwoodlaw06.DhAgrees", spec := "dhAgrees", inPlace := ["internal/abi.NoEscape", "internal/bytealg.MakeNoZero", "math/bits.Add64"], apart := false }
def DhAgreesSaid : Prop := dhAgreesRow.holds Try.pinned (OpenSpec.ofChange dhAgreesSpec)

/-- ITS FALSE NEIGHBOUR: 'it returns false'. Refute it at one input. -/
def dhAgreesWrong : ChangeSpec := { name := "dhAgrees", fn := fun _ => fun
  | [d1, d2, d3] => { results := [.lit (.bool false)], args := [d1, d2, d3] }
  | _ => none }
def DhAgreesWrongFalsely : Prop := dhAgreesRow.holds Try.pinned (OpenSpec.ofChange dhAgreesWrong)

/-- 'sapwoodlaw06.DhThree': WHATEVER THE INPUT: true; the input reads as it did. -/
def dhThreeSpec : ChangeSpec := { name := "dhThree", fn := fun _ => fun
  | [d1, d2, d3] => { results := [.lit (.bool true)], args := [d1, d2, d3] }
  | _ => none }
def dhThreeRow : OpenClaim := { program := "ythgefjgbkhkmgaa", sum := "4ab9984f0464ea6f9ffa63220b29f35c27306bdd342d4d0f2e363ffa4378dbab", func := "sapwood/sapwoodlaw06.DhThree", spec := "dhThree", inPlace := ["internal/abi.NoEscape", "internal/bytealg.MakeNoZero", "math/bits.Add64"], apart := false }
def DhThreeSaid : Prop := dhThreeRow.holds Try.pinned (OpenSpec.ofChange dhThreeSpec)

/-- ITS FALSE NEIGHBOUR: 'it returns false'. Refute it at one input. -/
def dhThreeWrong : ChangeSpec := { name := "dhThree", fn := fun _ => fun
  | [d1, d2, d3] => { results := [.lit (.bool false)], args := [d1, d2, d3] }
  | _ => none }
def DhThreeWrongFalsely : Prop := dhThreeRow.holds Try.pinned (OpenSpec.ofChange dhThreeWrong)

/- THE SECOND FORM. 'bulk': how many values and letters a reading holds, each counted each time it is reached (what is shared counts as often as it is met; a slice's spare places count too). A statement '..UptoSaid' is the law's where the arguments, and the package variables that the reading takes, are together of bulk at most 1048576: NARROWER than '..Said'. Prove '..Said' where nothing that the law and all that it calls make is longer than what came in: it says more and counts as full. Else prove '..UptoSaid'. A law counts once. -/
mutual
def uptoBulk {H : Type} : DataW H → Nat
  | .lit (.string bytes) => bytes.length + 1
  | .lit _ => 1
  | .nil => 1
  | .ptr d => uptoBulk d + 1
  | .slice elems spare => uptoBulkAll elems + uptoBulkAll spare + 1
  | .agg parts => uptoBulkAll parts + 1
  | .iface _ d => uptoBulk d + 1
  | .map entries => uptoBulkEntries entries + 1
  | .held _ => 1
def uptoBulkAll {H : Type} : List (DataW H) → Nat
  | [] => 0
  | d :: r => uptoBulk d + uptoBulkAll r
def uptoBulkEntries {H : Type} : List (Lit × DataW H) → Nat
  | [] => 0
  | x :: r => uptoBulkEntry x + uptoBulkEntries r
def uptoBulkEntry {H : Type} : Lit × DataW H → Nat
  | (.string bytes, d) => bytes.length + uptoBulk d + 1
  | (_, d) => uptoBulk d + 1
 end
def uptoSmall : (H : Type) → List (DataW H) → Bool := fun _ ds => decide (uptoBulkAll ds ≤ 1048576)
def OpenSpec.upto (s : _root_.Go.ChangeSpec) : _root_.Go.OpenSpec := { _root_.Go.OpenSpec.ofChange s with cond := some uptoSmall }

/-- 'sapwoodlaw01.CtPicks', WHERE WHAT IT READS IS OF BULK AT MOST 1048576: true; the input reads as it did. -/
def ctPicksUptoRow : OpenClaim := { program := "ythgefjgbkhkmgaa", sum := "4ab9984f0464ea6f9ffa63220b29f35c27306bdd342d4d0f2e363ffa4378dbab", func := "sapwood/sapwoodlaw01.CtPicks", spec := "ctPicks", inPlace := ["internal/abi.NoEscape", "internal/bytealg.MakeNoZero"], apart := false, narrowed := true }
def CtPicksUptoSaid : Prop := ctPicksUptoRow.holds Try.pinned (OpenSpec.upto ctPicksSpec)

/-- 'sapwoodlaw01.CtCompares', WHERE WHAT IT READS IS OF BULK AT MOST 1048576: true; the input reads as it did. -/
def ctComparesUptoRow : OpenClaim := { program := "ythgefjgbkhkmgaa", sum := "4ab9984f0464ea6f9ffa63220b29f35c27306bdd342d4d0f2e363ffa4378dbab", func := "sapwood/sapwoodlaw01.CtCompares", spec := "ctCompares", inPlace := ["internal/abi.NoEscape", "internal/bytealg.MakeNoZero"], apart := false, narrowed := true }
def CtComparesUptoSaid : Prop := ctComparesUptoRow.holds Try.pinned (OpenSpec.upto ctComparesSpec)

/-- 'sapwoodlaw01.CtOnce', WHERE WHAT IT READS IS OF BULK AT MOST 1048576: true; the input reads as it did. -/
def ctOnceUptoRow : OpenClaim := { program := "ythgefjgbkhkmgaa", sum := "4ab9984f0464ea6f9ffa63220b29f35c27306bdd342d4d0f2e363ffa4378dbab", func := "sapwood/sapwoodlaw01.CtOnce", spec := "ctOnce", inPlace := ["internal/abi.NoEscape", "internal/bytealg.MakeNoZero"], apart := false, narrowed := true }
def CtOnceUptoSaid : Prop := ctOnceUptoRow.holds Try.pinned (OpenSpec.upto ctOnceSpec)

/-- 'sapwoodlaw02.LimbModulus', WHERE WHAT IT READS IS OF BULK AT MOST 1048576: true; the input reads as it did. -/
def limbModulusUptoRow : OpenClaim := { program := "ythgefjgbkhkmgaa", sum := "4ab9984f0464ea6f9ffa63220b29f35c27306bdd342d4d0f2e363ffa4378dbab", func := "sapwood/sapwoodlaw02.LimbModulus", spec := "limbModulus", inPlace := ["internal/abi.NoEscape", "internal/bytealg.MakeNoZero"], apart := false, narrowed := true }
def LimbModulusUptoSaid : Prop := limbModulusUptoRow.holds Try.pinned (OpenSpec.upto limbModulusSpec)

/-- 'sapwoodlaw02.LimbReads', WHERE WHAT IT READS IS OF BULK AT MOST 1048576: true; the input reads as it did. -/
def limbReadsUptoRow : OpenClaim := { program := "ythgefjgbkhkmgaa", sum := "4ab9984f0464ea6f9ffa63220b29f35c27306bdd342d4d0f2e363ffa4378dbab", func := "sapwood/sapwoodlaw02.LimbReads", spec := "limbReads", inPlace := ["internal/abi.NoEscape", "internal/bytealg.MakeNoZero"], apart := false, narrowed := true }
def LimbReadsUptoSaid : Prop := limbReadsUptoRow.holds Try.pinned (OpenSpec.upto limbReadsSpec)

/-- 'sapwoodlaw02.LimbLaws', WHERE WHAT IT READS IS OF BULK AT MOST 1048576: true; the input reads as it did. -/
def limbLawsUptoRow : OpenClaim := { program := "ythgefjgbkhkmgaa", sum := "4ab9984f0464ea6f9ffa63220b29f35c27306bdd342d4d0f2e363ffa4378dbab", func := "sapwood/sapwoodlaw02.LimbLaws", spec := "limbLaws", inPlace := ["internal/abi.NoEscape", "internal/bytealg.MakeNoZero"], apart := false, narrowed := true }
def LimbLawsUptoSaid : Prop := limbLawsUptoRow.holds Try.pinned (OpenSpec.upto limbLawsSpec)

/-- 'sapwoodlaw06.DhChains', WHERE WHAT IT READS IS OF BULK AT MOST 1048576: true; the input reads as it did. -/
def dhChainsUptoRow : OpenClaim := { program := "ythgefjgbkhkmgaa", sum := "4ab9984f0464ea6f9ffa63220b29f35c27306bdd342d4d0f2e363ffa4378dbab", func := "sapwood/sapwoodlaw06.DhChains", spec := "dhChains", inPlace := ["internal/abi.NoEscape", "internal/bytealg.MakeNoZero", "math/bits.Add64"], apart := false, narrowed := true }
def DhChainsUptoSaid : Prop := dhChainsUptoRow.holds Try.pinned (OpenSpec.upto dhChainsSpec)

/-- 'sapwoodlaw02.LimbAdds', WHERE WHAT IT READS IS OF BULK AT MOST 1048576: true; the input reads as it did. -/
def limbAddsUptoRow : OpenClaim := { program := "ythgefjgbkhkmgaa", sum := "4ab9984f0464ea6f9ffa63220b29f35c27306bdd342d4d0f2e363ffa4378dbab", func := "sapwood/sapwoodlaw02.LimbAdds", spec := "limbAdds", inPlace := ["internal/abi.NoEscape", "internal/bytealg.MakeNoZero"], apart := false, narrowed := true }
def LimbAddsUptoSaid : Prop := limbAddsUptoRow.holds Try.pinned (OpenSpec.upto limbAddsSpec)

/-- 'sapwoodlaw03.MulfAlike', WHERE WHAT IT READS IS OF BULK AT MOST 1048576: true; the input reads as it did. -/
def mulfAlikeUptoRow : OpenClaim := { program := "ythgefjgbkhkmgaa", sum := "4ab9984f0464ea6f9ffa63220b29f35c27306bdd342d4d0f2e363ffa4378dbab", func := "sapwood/sapwoodlaw03.MulfAlike", spec := "mulfAlike", inPlace := ["internal/abi.NoEscape", "internal/bytealg.MakeNoZero", "math/bits.Add64"], apart := false, narrowed := true }
def MulfAlikeUptoSaid : Prop := mulfAlikeUptoRow.holds Try.pinned (OpenSpec.upto mulfAlikeSpec)

/-- 'sapwoodlaw03.MulfLaws', WHERE WHAT IT READS IS OF BULK AT MOST 1048576: true; the input reads as it did. -/
def mulfLawsUptoRow : OpenClaim := { program := "ythgefjgbkhkmgaa", sum := "4ab9984f0464ea6f9ffa63220b29f35c27306bdd342d4d0f2e363ffa4378dbab", func := "sapwood/sapwoodlaw03.MulfLaws", spec := "mulfLaws", inPlace := ["internal/abi.NoEscape", "internal/bytealg.MakeNoZero", "math/bits.Add64"], apart := false, narrowed := true }
def MulfLawsUptoSaid : Prop := mulfLawsUptoRow.holds Try.pinned (OpenSpec.upto mulfLawsSpec)

/-- 'sapwoodlaw03.MulfFactors', WHERE WHAT IT READS IS OF BULK AT MOST 1048576: true; the input reads as it did. -/
def mulfFactorsUptoRow : OpenClaim := { program := "ythgefjgbkhkmgaa", sum := "4ab9984f0464ea6f9ffa63220b29f35c27306bdd342d4d0f2e363ffa4378dbab", func := "sapwood/sapwoodlaw03.MulfFactors", spec := "mulfFactors", inPlace := ["internal/abi.NoEscape", "internal/bytealg.MakeNoZero", "math/bits.Add64"], apart := false, narrowed := true }
def MulfFactorsUptoSaid : Prop := mulfFactorsUptoRow.holds Try.pinned (OpenSpec.upto mulfFactorsSpec)

/-- 'sapwoodlaw03.MulfMakes', WHERE WHAT IT READS IS OF BULK AT MOST 1048576: true; the input reads as it did. -/
def mulfMakesUptoRow : OpenClaim := { program := "ythgefjgbkhkmgaa", sum := "4ab9984f0464ea6f9ffa63220b29f35c27306bdd342d4d0f2e363ffa4378dbab", func := "sapwood/sapwoodlaw03.MulfMakes", spec := "mulfMakes", inPlace := ["internal/abi.NoEscape", "internal/bytealg.MakeNoZero", "math/bits.Add64"], apart := false, narrowed := true }
def MulfMakesUptoSaid : Prop := mulfMakesUptoRow.holds Try.pinned (OpenSpec.upto mulfMakesSpec)

/-- 'sapwoodlaw04.InvPowers', WHERE WHAT IT READS IS OF BULK AT MOST 1048576: true; the input reads as it did. -/
def invPowersUptoRow : OpenClaim := { program := "ythgefjgbkhkmgaa", sum := "4ab9984f0464ea6f9ffa63220b29f35c27306bdd342d4d0f2e363ffa4378dbab", func := "sapwood/sapwoodlaw04.InvPowers", spec := "invPowers", inPlace := ["internal/abi.NoEscape", "internal/bytealg.MakeNoZero", "math/bits.Add64"], unfollowed := true, recurses := true, apart := false, narrowed := true }
def InvPowersUptoSaid : Prop := invPowersUptoRow.holds Try.pinned (OpenSpec.upto invPowersSpec)

/-- 'sapwoodlaw04.InvUndoes', WHERE WHAT IT READS IS OF BULK AT MOST 1048576: true; the input reads as it did. -/
def invUndoesUptoRow : OpenClaim := { program := "ythgefjgbkhkmgaa", sum := "4ab9984f0464ea6f9ffa63220b29f35c27306bdd342d4d0f2e363ffa4378dbab", func := "sapwood/sapwoodlaw04.InvUndoes", spec := "invUndoes", inPlace := ["internal/abi.NoEscape", "internal/bytealg.MakeNoZero", "math/bits.Add64"], apart := false, narrowed := true }
def InvUndoesUptoSaid : Prop := invUndoesUptoRow.holds Try.pinned (OpenSpec.upto invUndoesSpec)

/-- 'sapwoodlaw04.InvSwaps', WHERE WHAT IT READS IS OF BULK AT MOST 1048576: true; the input reads as it did. -/
def invSwapsUptoRow : OpenClaim := { program := "ythgefjgbkhkmgaa", sum := "4ab9984f0464ea6f9ffa63220b29f35c27306bdd342d4d0f2e363ffa4378dbab", func := "sapwood/sapwoodlaw04.InvSwaps", spec := "invSwaps", inPlace := ["internal/abi.NoEscape", "internal/bytealg.MakeNoZero", "math/bits.Add64"], apart := false, narrowed := true }
def InvSwapsUptoSaid : Prop := invSwapsUptoRow.holds Try.pinned (OpenSpec.upto invSwapsSpec)

/-- 'sapwoodlaw04.InvMakes', WHERE WHAT IT READS IS OF BULK AT MOST 1048576: true; the input reads as it did. -/
def invMakesUptoRow : OpenClaim := { program := "ythgefjgbkhkmgaa", sum := "4ab9984f0464ea6f9ffa63220b29f35c27306bdd342d4d0f2e363ffa4378dbab", func := "sapwood/sapwoodlaw04.InvMakes", spec := "invMakes", inPlace := ["internal/abi.NoEscape", "internal/bytealg.MakeNoZero", "math/bits.Add64"], apart := false, narrowed := true }
def InvMakesUptoSaid : Prop := invMakesUptoRow.holds Try.pinned (OpenSpec.upto invMakesSpec)

/-- 'sapwoodlaw05.LadderTwice', WHERE WHAT IT READS IS OF BULK AT MOST 1048576: true; the input reads as it did. -/
def ladderTwiceUptoRow : OpenClaim := { program := "ythgefjgbkhkmgaa", sum := "4ab9984f0464ea6f9ffa63220b29f35c27306bdd342d4d0f2e363ffa4378dbab", func := "sapwood/sapwoodlaw05.LadderTwice", spec := "ladderTwice", inPlace := ["internal/abi.NoEscape", "internal/bytealg.MakeNoZero", "math/bits.Add64"], unfollowed := true, recurses := true, apart := false, narrowed := true }
def LadderTwiceUptoSaid : Prop := ladderTwiceUptoRow.holds Try.pinned (OpenSpec.upto ladderTwiceSpec)

/-- 'sapwoodlaw05.LadderTimes', WHERE WHAT IT READS IS OF BULK AT MOST 1048576: true; the input reads as it did. -/
def ladderTimesUptoRow : OpenClaim := { program := "ythgefjgbkhkmgaa", sum := "4ab9984f0464ea6f9ffa63220b29f35c27306bdd342d4d0f2e363ffa4378dbab", func := "sapwood/sapwoodlaw05.LadderTimes", spec := "ladderTimes", inPlace := ["internal/abi.NoEscape", "internal/bytealg.MakeNoZero", "math/bits.Add64"], apart := false, narrowed := true }
def LadderTimesUptoSaid : Prop := ladderTimesUptoRow.holds Try.pinned (OpenSpec.upto ladderTimesSpec)

/-- 'sapwoodlaw05.LadderSteps', WHERE WHAT IT READS IS OF BULK AT MOST 1048576: true; the input reads as it did. -/
def ladderStepsUptoRow : OpenClaim := { program := "ythgefjgbkhkmgaa", sum := "4ab9984f0464ea6f9ffa63220b29f35c27306bdd342d4d0f2e363ffa4378dbab", func := "sapwood/sapwoodlaw05.LadderSteps", spec := "ladderSteps", inPlace := ["internal/abi.NoEscape", "internal/bytealg.MakeNoZero", "math/bits.Add64"], apart := false, narrowed := true }
def LadderStepsUptoSaid : Prop := ladderStepsUptoRow.holds Try.pinned (OpenSpec.upto ladderStepsSpec)

/-- 'sapwoodlaw05.LadderOrder', WHERE WHAT IT READS IS OF BULK AT MOST 1048576: true; the input reads as it did. -/
def ladderOrderUptoRow : OpenClaim := { program := "ythgefjgbkhkmgaa", sum := "4ab9984f0464ea6f9ffa63220b29f35c27306bdd342d4d0f2e363ffa4378dbab", func := "sapwood/sapwoodlaw05.LadderOrder", spec := "ladderOrder", inPlace := ["internal/abi.NoEscape", "internal/bytealg.MakeNoZero", "math/bits.Add64"], apart := false, narrowed := true }
def LadderOrderUptoSaid : Prop := ladderOrderUptoRow.holds Try.pinned (OpenSpec.upto ladderOrderSpec)

/-- 'sapwoodlaw06.DhZero', WHERE WHAT IT READS IS OF BULK AT MOST 1048576: true; the input reads as it did. -/
def dhZeroUptoRow : OpenClaim := { program := "ythgefjgbkhkmgaa", sum := "4ab9984f0464ea6f9ffa63220b29f35c27306bdd342d4d0f2e363ffa4378dbab", func := "sapwood/sapwoodlaw06.DhZero", spec := "dhZero", inPlace := ["internal/abi.NoEscape", "internal/bytealg.MakeNoZero", "math/bits.Add64"], apart := false, narrowed := true }
def DhZeroUptoSaid : Prop := dhZeroUptoRow.holds Try.pinned (OpenSpec.upto dhZeroSpec)

/-- 'sapwoodlaw06.DhMakes', WHERE WHAT IT READS IS OF BULK AT MOST 1048576: true; the input reads as it did. -/
def dhMakesUptoRow : OpenClaim := { program := "ythgefjgbkhkmgaa", sum := "4ab9984f0464ea6f9ffa63220b29f35c27306bdd342d4d0f2e363ffa4378dbab", func := "sapwood/sapwoodlaw06.DhMakes", spec := "dhMakes", inPlace := ["internal/abi.NoEscape", "internal/bytealg.MakeNoZero", "math/bits.Add64"], apart := false, narrowed := true }
def DhMakesUptoSaid : Prop := dhMakesUptoRow.holds Try.pinned (OpenSpec.upto dhMakesSpec)

/-- 'sapwoodlaw06.DhAgrees', WHERE WHAT IT READS IS OF BULK AT MOST 1048576: true; the input reads as it did. -/
def dhAgreesUptoRow : OpenClaim := { program := "ythgefjgbkhkmgaa", sum := "4ab9984f0464ea6f9ffa63220b29f35c27306bdd342d4d0f2e363ffa4378dbab", func := "sapwood/sapwoodlaw06.DhAgrees", spec := "dhAgrees", inPlace := ["internal/abi.NoEscape", "internal/bytealg.MakeNoZero", "math/bits.Add64"], apart := false, narrowed := true }
def DhAgreesUptoSaid : Prop := dhAgreesUptoRow.holds Try.pinned (OpenSpec.upto dhAgreesSpec)

/-- 'sapwoodlaw06.DhThree', WHERE WHAT IT READS IS OF BULK AT MOST 1048576: true; the input reads as it did. -/
def dhThreeUptoRow : OpenClaim := { program := "ythgefjgbkhkmgaa", sum := "4ab9984f0464ea6f9ffa63220b29f35c27306bdd342d4d0f2e363ffa4378dbab", func := "sapwood/sapwoodlaw06.DhThree", spec := "dhThree", inPlace := ["internal/abi.NoEscape", "internal/bytealg.MakeNoZero", "math/bits.Add64"], apart := false, narrowed := true }
def DhThreeUptoSaid : Prop := dhThreeUptoRow.holds Try.pinned (OpenSpec.upto dhThreeSpec)

end Rows
end Go.Proofs.Ythgefjgbkhkmgaa
