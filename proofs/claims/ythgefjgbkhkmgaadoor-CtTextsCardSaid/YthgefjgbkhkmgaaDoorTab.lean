/-
  The types of the translated program that the evaluator knows, and small words on values.
-/
import Derived.Test.YthgefjgbkhkmgaaDoorEv
import Derived.Test.YthgefjgbkhkmgaaDoorRows
namespace Go.Proofs.YthgefjgbkhkmgaaDoor.Ev
open Go

def zrep (n : Nat) (v : Value) : List Value :=
  match n with
  | 0 => []
  | n + 1 => v :: zrep n v

def tInt (k : IntKind) (bytes : Nat) : Ty := ⟨.int k, 1, [.int k 0], bytes⟩
def tabL : List (Nat × Ty) := [(3, tInt .i64 8), (2, tInt .i64 8), (5, tInt .u8 1), (66, tInt .u64 8), (63, tInt .u32 4), (37, tInt .u64 8), (4, ⟨.bool, 1, [.bool false], 1⟩), (9, ⟨.string, 1, [.string ByteArray.empty], 16⟩), (23, ⟨.array 32 5, 32, zrep 32 (.int .u8 0), 32⟩), (22, ⟨.array 32 5, 32, zrep 32 (.int .u8 0), 32⟩), (38, ⟨.slice 5, 1, [.slice none 0 0], 24⟩)]

def tabGet : List (Nat × Ty) → Nat → Option Ty
  | [], _ => none
  | (k, y) :: r, i => match Nat.beq k i with | true => some y | false => tabGet r i
def tab : Tab := tabGet tabL

/-- cells of a function's values -/
def cellsOf (k : IntKind) (f : Nat → Int) : Nat → Nat → List Value
  | 0, _ => []
  | n + 1, i => .int k (f i) :: cellsOf k f n (i + 1)
def arrOf (k : IntKind) (n : Nat) (f : Nat → Int) : Value := .agg (cellsOf k f n 0).toArray
/-- a key -/
abbrev vK (f : Nat → Int) : Value := arrOf .u8 32 f

end Go.Proofs.YthgefjgbkhkmgaaDoor.Ev
