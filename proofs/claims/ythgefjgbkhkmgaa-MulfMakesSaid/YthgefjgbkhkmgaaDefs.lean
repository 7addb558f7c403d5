/-
  Layers 4 and 5: what Swap, Power, Invert, Step, Times reckon, written out.
-/
import Derived.Test.YthgefjgbkhkmgaaMulf
namespace Go.Proofs.Ythgefjgbkhkmgaa.Ev
open Go Go.RowKit

def xor64 (x y : Int) : Int := IntKind.u64.wrap ((BitVec.ofInt 64 x ^^^ BitVec.ofInt 64 y).toNat : Int)
def maskI (b : Int) : Int := IntKind.u64.wrap (0 - IntKind.u64.wrap (IntKind.i64.wrap ((BitVec.ofInt 64 b &&& BitVec.ofInt 64 1).toNat : Int)))
def swI (m x y : Int) : Int := and64 m (xor64 x y)
def swA (m : Int) (a b : Value) : Value := ints [xor64 (lim a 0) (swI m (lim a 0) (lim b 0)), xor64 (lim a 1) (swI m (lim a 1) (lim b 1)), xor64 (lim a 2) (swI m (lim a 2) (lim b 2)), xor64 (lim a 3) (swI m (lim a 3) (lim b 3)), xor64 (lim a 4) (swI m (lim a 4) (lim b 4))]
def swB (m : Int) (a b : Value) : Value := ints [xor64 (lim b 0) (swI m (lim a 0) (lim b 0)), xor64 (lim b 1) (swI m (lim a 1) (lim b 1)), xor64 (lim b 2) (swI m (lim a 2) (lim b 2)), xor64 (lim b 3) (swI m (lim a 3) (lim b 3)), xor64 (lim b 4) (swI m (lim a 4) (lim b 4))]

/-- an element by its limbs -/
def nrm (x : Value) : Value := ints [lim x 0, lim x 1, lim x 2, lim x 3, lim x 4]
/-- the byte of a bit, shifted -/
def kb (k : Value) (i : Nat) : Int := IntKind.i64.wrap ((lim k (i / 8)).fdiv (2 ^ (i % 8)))

def one : Value := smallV (.int .u32 1)
/-! ## Power, Invert -/
def powS (a o : Value) (c : Int) : Value := swB (maskI c) (mulV (sqV o) a) (sqV o)
def powN (a k : Value) : Nat → Value
  | 0 => one
  | n + 1 => powS a (powN a k n) (kb k (255 - n))
def powV (a k : Value) : Value := powN a k 256
def sqN (x : Value) : Nat → Value
  | 0 => x
  | n + 1 => sqV (sqN x n)
/-- squared so often, by its limbs -/
def rN (x : Value) (n : Nat) : Value := nrm (sqN x n)
def i2 (a : Value) : Value := sqV a
def i9 (a : Value) : Value := mulV (rN (i2 a) 2) a
def i11 (a : Value) : Value := mulV (i9 a) (i2 a)
def b5 (a : Value) : Value := mulV (sqV (i11 a)) (i9 a)
def b10 (a : Value) : Value := mulV (rN (b5 a) 5) (b5 a)
def b20 (a : Value) : Value := mulV (rN (b10 a) 10) (b10 a)
def b40 (a : Value) : Value := mulV (rN (b20 a) 20) (b20 a)
def b50 (a : Value) : Value := mulV (rN (b40 a) 10) (b10 a)
def b100 (a : Value) : Value := mulV (rN (b50 a) 50) (b50 a)
def b200 (a : Value) : Value := mulV (rN (b100 a) 100) (b100 a)
def b250 (a : Value) : Value := mulV (rN (b200 a) 50) (b50 a)
def invV (a : Value) : Value := mulV (rN (b250 a) 5) (i11 a)

/-! ## The ladder -/
def pX (p : Value) : Value := ints [lim p 0, lim p 1, lim p 2, lim p 3, lim p 4]
def pZ (p : Value) : Value := ints [lim p 5, lim p 6, lim p 7, lim p 8, lim p 9]
def pr (x z : Value) : Value := ints [lim x 0, lim x 1, lim x 2, lim x 3, lim x 4, lim z 0, lim z 1, lim z 2, lim z 3, lim z 4]
def stP (a : Value) : Value := addV (pX a) (pZ a)
def stQ (a : Value) : Value := subV (pX a) (pZ a)
def stE (a : Value) : Value := subV (sqV (stP a)) (sqV (stQ a))
def stA (a : Value) : Value := pr (mulV (sqV (stP a)) (sqV (stQ a))) (mulV (stE a) (addV (sqV (stP a)) (timesV (stE a) (.int .u32 121665))))
def stB (x a b : Value) : Value := pr (sqV (addV (mulV (stQ b) (stP a)) (mulV (stP b) (stQ a)))) (mulV x (sqV (subV (mulV (stQ b) (stP a)) (mulV (stP b) (stQ a)))))
def spA (m : Int) (a b : Value) : Value := pr (swA m (pX a) (pX b)) (swA m (pZ a) (pZ b))
def spB (m : Int) (a b : Value) : Value := pr (swB m (pX a) (pX b)) (swB m (pZ a) (pZ b))
def affV (a : Value) : Value := mulV (pX a) (nrm (invV (pZ a)))
def kbit (k : Value) (i : Nat) : Int := IntKind.i64.wrap ((BitVec.ofInt 64 (kb k i) &&& BitVec.ofInt 64 1).toNat : Int)
def xorI (x y : Int) : Int := IntKind.i64.wrap ((BitVec.ofInt 64 x ^^^ BitVec.ofInt 64 y).toNat : Int)
structure LS where
  a : Value
  b : Value
  w : Int
def ladS (x : Value) (s : LS) (c : Int) : LS :=
  let m := maskI (xorI s.w c)
  ⟨stA (spA m s.a s.b), stB x (spA m s.a s.b) (spB m s.a s.b), c⟩
def ladN (x k : Value) : Nat → LS
  | 0 => ⟨pr one zE, pr x one, 0⟩
  | n + 1 => ladS x (ladN x k n) (kbit k (255 - n))
/-- a pair by its limbs -/
def n10 (p : Value) : Value := ints [lim p 0, lim p 1, lim p 2, lim p 3, lim p 4, lim p 5, lim p 6, lim p 7, lim p 8, lim p 9]
def ladV (k x : Value) : Value := affV (spA (maskI (ladN x k 256).w) (n10 (ladN x k 256).a) (n10 (ladN x k 256).b))
end Go.Proofs.Ythgefjgbkhkmgaa.Ev
