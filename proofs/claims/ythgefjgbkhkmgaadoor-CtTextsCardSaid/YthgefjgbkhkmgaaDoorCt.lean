/-
  Layer 1 walked: Pick, Swap, digit, Hex of a row of nothings.
-/
import Derived.Test.YthgefjgbkhkmgaaDoorShape
namespace Go.Proofs.YthgefjgbkhkmgaaDoor.Ev
open Go Go.RowKit

def bxor (x y : Int) : Int := IntKind.u8.wrap ((BitVec.ofInt 8 x ^^^ BitVec.ofInt 8 y).toNat : Int)
def band (x y : Int) : Int := IntKind.u8.wrap ((BitVec.ofInt 8 x &&& BitVec.ofInt 8 y).toNat : Int)
/-- the mask of Pick -/
def maskB (b : Int) : Int := IntKind.u8.wrap (0 - IntKind.u8.wrap (IntKind.i64.wrap ((BitVec.ofInt 64 b &&& BitVec.ofInt 64 1).toNat : Int)))
def pickB (b x y : Int) : Int := bxor x (band (maskB b) (bxor x y))
def pickL (b : Int) : List Value → List Value → List Value
  | .int _ x :: xs, .int _ y :: ys => .int .u8 (pickB b x y) :: pickL b xs ys
  | _, _ => []

def cellsV : Value → List Value
  | .agg cs => cs.toList
  | _ => []
def intV : Value → Int
  | .int _ x => x
  | _ => 0
def boolV : Value → Bool
  | .bool b => b
  | _ => false
def at' (l : List Value) (i : Nat) : Value := getD l i

def pickV (b x y : Value) : Value := .agg (pickL (intV b) (cellsV x) (cellsV y)).toArray
def pickF (a : List Value) : Bool × Value := (true, pickV (getD a 0) (getD a 1) (getD a 2))
def pickS : List Sh := [.int .i64, .arr .u8 32, .arr .u8 32]

theorem pick_ev (e : Env) : evBody tab orc0 [] [] [] 1000 Tryd.f10 (bodyOf Tryd.f10) (mkA pickS e 0) [] 0 [] (fun r => r = (pickF (mkA pickS e 0)).2) = ((pickF (mkA pickS e 0)).2 = (pickF (mkA pickS e 0)).2) := by kernel_rfl
theorem pick_okV (e : Env) : okV (pickF (mkA pickS e 0)).2 = true := by kernel_rfl
theorem pick_ok : FoOk 10 (foOf pickS pickF) := fo_of orc0_ok Tryd.func10 (by kernel_rfl) (by kernel_rfl) pick_okV fun e _ => ⟨[], by rw [pick_ev]⟩

def orc1 : Orc := oadd orc0 10 (foOf pickS pickF)
theorem orc1_ok : OrcOk Tryd.prog orc1 := oadd_ok orc0_ok pick_ok

end Go.Proofs.YthgefjgbkhkmgaaDoor.Ev
