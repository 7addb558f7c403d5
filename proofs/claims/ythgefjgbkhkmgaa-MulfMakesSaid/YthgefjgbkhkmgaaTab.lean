/-
  The types of the translated program that the evaluator knows, and small words on values.
-/
import Derived.Test.YthgefjgbkhkmgaaEv
import Derived.Test.YthgefjgbkhkmgaaRows
namespace Go.Proofs.Ythgefjgbkhkmgaa.Ev
open Go

def zrep (n : Nat) (v : Value) : List Value :=
  match n with
  | 0 => []
  | n + 1 => v :: zrep n v

def tInt (k : IntKind) (bytes : Nat) : Ty := ⟨.int k, 1, [.int k 0], bytes⟩
def tabL : List (Nat × Ty) := [
  (3, tInt .i64 8), (2, tInt .i64 8), (5, tInt .u8 1), (34, tInt .u64 8), (41, tInt .u32 4), (101, tInt .u64 8),
  (4, ⟨.bool, 1, [.bool false], 1⟩),
  (9, ⟨.string, 1, [.string ByteArray.empty], 16⟩),
  (36, ⟨.array 5 34, 5, zrep 5 (.int .u64 0), 40⟩), (35, ⟨.array 5 34, 5, zrep 5 (.int .u64 0), 40⟩),
  (23, ⟨.array 32 5, 32, zrep 32 (.int .u8 0), 32⟩), (22, ⟨.array 32 5, 32, zrep 32 (.int .u8 0), 32⟩),
  (45, ⟨.array 16 3, 16, zrep 16 (.int .i64 0), 128⟩), (44, ⟨.array 16 3, 16, zrep 16 (.int .i64 0), 128⟩),
  (53, ⟨.slice 23, 1, [.slice none 0 0], 24⟩), (60, ⟨.slice 36, 1, [.slice none 0 0], 24⟩), (66, ⟨.slice 45, 1, [.slice none 0 0], 24⟩),
  (92, ⟨.slice 5, 1, [.slice none 0 0], 24⟩), (104, ⟨.slice 3, 1, [.slice none 0 0], 24⟩),
  (84, ⟨.struct #[{ name := "X", type := 36, offset := 0, embedded := false, tag := "", pkgPath := "", byteOffset := 0 }, { name := "Z", type := 36, offset := 5, embedded := false, tag := "", pkgPath := "", byteOffset := 40 }], 10, zrep 10 (.int .u64 0), 80⟩),
  (109, ⟨.struct #[{ name := "hi", type := 34, offset := 0, embedded := false, tag := "", pkgPath := "sapwood/mulf", byteOffset := 0 }, { name := "lo", type := 34, offset := 1, embedded := false, tag := "", pkgPath := "sapwood/mulf", byteOffset := 8 }], 2, zrep 2 (.int .u64 0), 16⟩),
  (110, ⟨.array 5 109, 10, zrep 10 (.int .u64 0), 80⟩)]

def tabGet : List (Nat × Ty) → Nat → Option Ty
  | [], _ => none
  | (k, y) :: r, i => match Nat.beq k i with | true => some y | false => tabGet r i
def tab : Tab := tabGet tabL

/-- cells of a function's values -/
def cellsOf (k : IntKind) (f : Nat → Int) : Nat → Nat → List Value
  | 0, _ => []
  | n + 1, i => .int k (f i) :: cellsOf k f n (i + 1)
def arrOf (k : IntKind) (n : Nat) (f : Nat → Int) : Value := .agg (cellsOf k f n 0).toArray
/-- an element -/
abbrev vE (f : Nat → Int) : Value := arrOf .u64 5 f
/-- a key -/
abbrev vK (f : Nat → Int) : Value := arrOf .u8 32 f
/-- a number of the document's -/
abbrev vN (f : Nat → Int) : Value := arrOf .i64 16 f

end Go.Proofs.Ythgefjgbkhkmgaa.Ev
