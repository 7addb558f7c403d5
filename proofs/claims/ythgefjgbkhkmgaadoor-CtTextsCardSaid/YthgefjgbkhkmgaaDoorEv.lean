/-
  An evaluator of translated Go code on abstract states: slots that hold values, and a small heap of the call's own blocks.
  Definitions only; that what it reckons is what the model does is proved in YthgefjgbkhkmgaaDoorEvA and the texts behind it.
-/
import GoSem.Claim
import Derived.WalkKit
namespace Go.Proofs.YthgefjgbkhkmgaaDoor.Ev
open Go

/-- what the evaluator knows of a type -/
structure Ty where
  und : TypeDesc
  size : Nat
  zero : List Value
  bytes : Nat

/-- a block of cells -/
structure Blk where
  cs : List Value
  ty : Nat
  own : Bool
  /-- cells of an element, where it is the whole row of a slice that append has made (else 0) -/
  ap : Nat

/-- the capacity of a slice that append has made: not known -/
def capX : Nat := 1180591620717411303424

abbrev Heap := List (Nat × Blk)

def hget : Heap → Nat → Option Blk
  | [], _ => none
  | (k, b) :: r, i => match Nat.beq k i with | true => some b | false => hget r i

def hdel : Heap → Nat → Heap
  | [], _ => []
  | (k, b) :: r, i => match Nat.beq k i with | true => hdel r i | false => (k, b) :: hdel r i

def hput (h : Heap) (i : Nat) (b : Blk) : Heap := (i, b) :: hdel h i

/-- the abstract state: slots (what is not known: none), blocks, the next free number -/
structure AS where
  t : List (Option Value)
  h : Heap
  n : Nat

/-- a value that is an address -/
def adr : Value → Bool
  | .pointer (some _) => true
  | .slice (some _) _ _ => true
  | _ => false

def isTup : Value → Bool
  | .tuple _ => true
  | _ => false

def isAggD : TypeDesc → Bool
  | .struct _ => true
  | .array _ _ => true
  | _ => false

def vcells (v : Value) : List Value :=
  match v with
  | .agg cs => cs.toList
  | v => [v]

def splice (cs : List Value) (off : Nat) (vs : List Value) : List Value := cs.take off ++ vs ++ cs.drop (off + vs.length)

/-- one cell put down -/
def put1 : List Value → Nat → Value → List Value
  | [], _, _ => []
  | _ :: r, 0, v => v :: r
  | c :: r, n + 1, v => c :: put1 r n v

def getD : List Value → Nat → Value
  | [], _ => undef
  | c :: _, 0 => c
  | _ :: r, n + 1 => getD r n

/-- what one operation comes to: whether it runs to its end, the value, what becomes of the blocks -/
structure Out where
  c : Bool
  v : Value
  e : List (Nat × Option Blk)

abbrev Tab := Nat → Option Ty
/-- slots and blocks, looked at -/
abbrev Slots := Nat → Option Value
abbrev Blks := Nat → Option Blk
abbrev Orc := Nat → List Value → Blks → Option (Bool × Value)
/-- what is assumed of a slot: its truth value, its number, or no more than that its operation goes well -/
inductive Asm where
  | b (x : Bool)
  | i (x : Int)
  | ok
abbrev Sy := List (Nat × Asm)

def asGet : Sy → Nat → Option Asm
  | [], _ => none
  | (k, b) :: r, i => match Nat.beq k i with | true => some b | false => asGet r i

def syGet (sy : Sy) (i : Nat) : Option Bool :=
  match asGet sy i with
  | some (.b x) => some x
  | _ => none

/-- a truth value that is to be taken for a known one -/
def syBool (sy : Sy) (slot : Nat) (b : Bool) : Bool × Bool :=
  match syGet sy slot with
  | some e => (b == e, e)
  | none => (true, b)

def slotOf : List (Option Value) → Nat → Option Value
  | [], _ => none
  | v :: _, 0 => v
  | _ :: r, n + 1 => slotOf r n

def slotPut : List (Option Value) → Nat → Value → List (Option Value)
  | [], _, _ => []
  | _ :: r, 0, v => some v :: r
  | x :: r, n + 1, v => x :: slotPut r n v

/-- a constant that may stand in the code -/
def constOk : Value → Bool
  | .bool _ => true
  | .int _ _ => true
  | .string _ => true
  | .slice none _ _ => true
  | _ => false

def look (t : Slots) : Operand → Option Value
  | .tmp i => t i
  | .const v => match constOk v with | true => some v | false => none
  | .global _ => none
  | .func f => some (.func (.func f) #[] #[])

def lookAll (t : Slots) : List Operand → Option (List Value)
  | [] => some []
  | x :: r => match look t x with
    | none => none
    | some v => match lookAll t r with
      | none => none
      | some vs => some (v :: vs)

def lookParts (t : Slots) : List (Nat × Operand) → Option (List (Nat × Value))
  | [] => some []
  | (i, x) :: r => match look t x with
    | none => none
    | some v => match lookParts t r with
      | none => none
      | some vs => some ((i, v) :: vs)

/-- parts laid into the cells -/
def fillL (place : Nat → Option (Nat × Nat)) : List Value → List (Nat × Value) → Option (List Value)
  | cells, [] => some cells
  | cells, (i, v) :: rest =>
    match place i with
    | none => none
    | some (off, size) =>
      match Nat.beq (vcells v).length size && Nat.ble (off + (vcells v).length) cells.length && !adr v && !isTup v with
      | false => none
      | true => fillL place (splice cells off (vcells v)) rest

def nth {α : Type} : List α → Nat → Option α
  | [], _ => none
  | x :: _, 0 => some x
  | _ :: r, n + 1 => nth r n

def places (tab : Tab) : List Field → Option (List (Nat × Nat))
  | [] => some []
  | f :: r => match tab f.type with
    | none => none
    | some y => match places tab r with
      | none => none
      | some ps => some ((f.offset, y.size) :: ps)

/-- a loaded variable -/
def ldv (y : Ty) (cs : List Value) (off : Nat) : Value :=
  match isAggD y.und with
  | true => .agg ((cs.drop off).take y.size).toArray
  | false => getD cs off

def kindEq : IntKind → IntKind → Bool
  | .i8, .i8 | .i16, .i16 | .i32, .i32 | .i64, .i64 | .u8, .u8 | .u16, .u16 | .u32, .u32 | .u64, .u64 => true
  | _, _ => false

/-- cells that are all numbers of one kind, compared -/
def eqCells : List Value → List Value → Option Bool
  | [], [] => some true
  | .int k a :: r, .int k' b :: r' =>
    match kindEq k k' with
    | false => none
    | true => match eqCells r r' with
      | none => none
      | some e => some ((a == b) && e)
  | _, _ => none

/-- an operator on numbers -/
def intOp (op : BinOp) (k : IntKind) (a : Int) (k' : IntKind) (b : Int) : Option (Bool × Value) :=
  match op with
  | .shl => some (decide (0 ≤ b), .int k (k.wrap (a * 2 ^ (min b.toNat k.bits))))
  | .shr => some (decide (0 ≤ b), .int k (a.fdiv (2 ^ (min b.toNat k.bits))))
  | .add => match kindEq k k' with | true => some (true, .int k (k.wrap (a + b))) | false => none
  | .sub => match kindEq k k' with | true => some (true, .int k (k.wrap (a - b))) | false => none
  | .mul => match kindEq k k' with | true => some (true, .int k (k.wrap (a * b))) | false => none
  | .quo => match kindEq k k' with | true => some (!(b == 0), .int k (k.wrap (a.tdiv b))) | false => none
  | .rem => match kindEq k k' with | true => some (!(b == 0), .int k (a.tmod b)) | false => none
  | .and => match kindEq k k' with | true => some (true, .int k (k.wrap ((BitVec.ofInt k.bits a &&& BitVec.ofInt k.bits b).toNat : Int))) | false => none
  | .or => match kindEq k k' with | true => some (true, .int k (k.wrap ((BitVec.ofInt k.bits a ||| BitVec.ofInt k.bits b).toNat : Int))) | false => none
  | .xor => match kindEq k k' with | true => some (true, .int k (k.wrap ((BitVec.ofInt k.bits a ^^^ BitVec.ofInt k.bits b).toNat : Int))) | false => none
  | .eql => match kindEq k k' with | true => some (true, .bool (a == b)) | false => none
  | .neq => match kindEq k k' with | true => some (true, .bool (a != b)) | false => none
  | .lss => match kindEq k k' with | true => some (true, .bool (decide (a < b))) | false => none
  | .leq => match kindEq k k' with | true => some (true, .bool (decide (a ≤ b))) | false => none
  | .gtr => match kindEq k k' with | true => some (true, .bool (decide (a > b))) | false => none
  | .geq => match kindEq k k' with | true => some (true, .bool (decide (a ≥ b))) | false => none
  | _ => none

def isArrInt (tab : Tab) (t : Nat) (n : Nat) : Bool :=
  match tab t with
  | some y => match y.und with
    | .array len e => match tab e with
      | some z => match z.und with
        | .int _ => Nat.beq len n && Nat.beq z.size 1
        | _ => false
      | none => false
    | _ => false
  | none => false

def isBoolT (tab : Tab) (t : Nat) : Bool :=
  match tab t with
  | some y => match y.und with
    | .bool => true
    | _ => false
  | none => false

def binF (tab : Tab) (op : BinOp) (t : Nat) (x y : Value) : Option (Bool × Value) :=
  match x, y with
  | .int k a, .int k' b => intOp op k a k' b
  | .string a, .string b => match op with
    | .eql => some (true, .bool (a.toList == b.toList))
    | .neq => some (true, .bool !(a.toList == b.toList))
    | .add => some (decide (((a.size + b.size : Nat) : Int) ≤ IntKind.i64.max), .string (a ++ b))
    | _ => none
  | .bool a, .bool b => match isBoolT tab t with
    | false => none
    | true => match op with
      | .eql => some (true, .bool (a == b))
      | .neq => some (true, .bool !(a == b))
      | _ => none
  | .agg xs, .agg ys => match isArrInt tab t xs.toList.length with
    | false => none
    | true => match eqCells xs.toList ys.toList with
      | none => none
      | some e => match op with
        | .eql => some (true, .bool e)
        | .neq => some (true, .bool !e)
        | _ => none
  | _, _ => none

def unF (op : UnOp) (x : Value) : Option Value :=
  match op, x with
  | .neg, .int k n => some (.int k (k.wrap (0 - n)))
  | .not, .bool b => some (.bool !b)
  | _, _ => none

def byteOf : Value → UInt8
  | .int _ n => UInt8.ofNat n.toNat
  | _ => 0

def allU8 : List Value → Bool
  | [] => true
  | .int .u8 _ :: r => allU8 r
  | _ => false

def convF (tab : Tab) (h : Blks) (src dst : Nat) (x : Value) : Option (Bool × Value) :=
  match tab dst with
  | none => none
  | some yd => match yd.und with
    | .int k => match tab src, x with
      | some _, .int _ n => some (true, .int k (k.wrap n))
      | _, _ => none
    | .string => match tab src with
      | none => none
      | some ys => match ys.und with
        | .slice e => match tab e with
          | none => none
          | some ye => match ye.und with
            | .int .u8 => match x with
              | .slice (some ⟨id, off, none⟩) len _ => match h id with
                | none => none
                | some b => match allU8 ((b.cs.drop off).take len) with
                  | false => none
                  | true => some (Nat.ble (off + len) b.cs.length, .string ⟨(((b.cs.drop off).take len).map byteOf).toArray⟩)
              | _ => none
            | _ => none
        | _ => none
    | _ => none

def zeroRow (z : List Value) : Nat → List Value
  | 0 => []
  | n + 1 => z ++ zeroRow z n

def sliceF (tab : Tab) (t : Nat) (x : Value) (lo hi mx : Option Value) : Option (Bool × Value) :=
  match x, mx with
  | .pointer (some ⟨id, off, none⟩), none => match tab t with
    | none => none
    | some y => match y.und, lo, hi with
      | .array n e, none, none => match tab e with
        | none => none
        | some _ => some (!(Nat.beq n 0) && Nat.ble n 1048576, .slice (some ⟨id, off, none⟩) n n)
      | _, _, _ => none
  | .string s, none => match tab t with
    | none => none
    | some y => match y.und, lo, hi with
      | .string, none, some (.int _ b) => some (decide (0 ≤ b ∧ b ≤ s.size), .string (s.extract 0 b.toNat))
      | .string, some (.int _ a), some (.int _ b) => some (decide (0 ≤ b ∧ b ≤ s.size ∧ 0 ≤ a ∧ a ≤ b), .string (s.extract a.toNat b.toNat))
      | _, _, _ => none
  | _, _ => none

def fieldF (tab : Tab) (t : Nat) (x : Value) (f : Nat) : Option (Bool × Value) :=
  match x with
  | .pointer (some ⟨id, off, none⟩) => match tab t with
    | none => none
    | some y => match y.und with
      | .struct fs => match nth fs.toList f with
        | none => none
        | some fld => match tab fld.type with
          | none => none
          | some z => some (!(Nat.beq z.size 0), .pointer (some ⟨id, off + fld.offset, none⟩))
      | _ => none
  | _ => none

def idxAddrF (tab : Tab) (t : Nat) (x ix : Value) : Option (Bool × Value) :=
  match ix with
  | .int _ i => match tab t with
    | none => none
    | some y => match y.und, x with
      | .array len e, .pointer (some ⟨id, off, none⟩) => match tab e with
        | none => none
        | some z => some (decide (0 ≤ i ∧ i < (len : Int)), .pointer (some ⟨id, off + i.toNat * z.size, none⟩))
      | .slice e, .slice (some ⟨id, off, none⟩) len _ => match tab e with
        | none => none
        | some z => some (decide (0 ≤ i ∧ i < (len : Int)), .pointer (some ⟨id, off + i.toNat * z.size, none⟩))
      | _, _ => none
  | _ => none

def byteAt : List UInt8 → Nat → UInt8
  | [], _ => 0
  | b :: _, 0 => b
  | _ :: r, n + 1 => byteAt r n

def idxF (tab : Tab) (t : Nat) (x ix : Value) : Option (Bool × Value) :=
  match ix with
  | .int _ i => match tab t with
    | none => none
    | some y => match y.und, x with
      | .array len e, .agg cs => match tab e with
        | none => none
        | some z => some (decide (0 ≤ i ∧ i < (len : Int)) && Nat.ble (i.toNat * z.size + z.size) cs.toList.length && (isAggD z.und || Nat.beq z.size 1), ldv z cs.toList (i.toNat * z.size))
      | .string, .string s => some (decide (0 ≤ i ∧ i < (s.size : Int)), .int .u8 ((byteAt s.data.toList i.toNat).toNat : Int))
      | _, _ => none
  | _ => none

def lenF (tab : Tab) (t : Nat) (x : Value) : Option Value :=
  match tab t with
  | none => none
  | some y => match y.und, x with
    | .string, .string s => some (.int .i64 s.size)
    | .array n _, _ => some (.int .i64 n)
    | .slice _, .slice _ n _ => some (.int .i64 n)
    | _, _ => none

/-- blocks that an address names -/
def idOf : Value → List Nat
  | .pointer (some ⟨id, _, _⟩) => [id]
  | .slice (some ⟨id, _, _⟩) _ _ => [id]
  | _ => []

def idsOf : List Value → List Nat
  | [] => []
  | v :: r => idOf v ++ idsOf r

/-- what is appended: elements, cells -/
def appd (tab : Tab) (h : Blks) (z : Ty) (xt : Nat) (x : Value) : Option (Bool × Nat × List Value) :=
  match tab xt with
  | none => none
  | some y => match y.und, x with
    | .int _, .int .i64 (.ofNat n) => some (Nat.ble n 1048576 && Nat.ble (z.bytes * n) 281474976710656 && Nat.beq z.zero.length z.size && !(Nat.beq z.size 0), n, zeroRow z.zero n)
    | .slice _, .slice (some ⟨b, off, none⟩) n _ => match h b with
      | none => none
      | some k => some (Nat.ble (off + n * z.size) k.cs.length, n, (k.cs.drop off).take (n * z.size))
    | _, _ => none

/-- append to a slice of the call's own -/
def appF (tab : Tab) (h : Blks) (id st xt : Nat) (s x : Value) : Option Out :=
  match tab st with
  | none => none
  | some y => match y.und with
    | .slice el => match tab el with
      | none => none
      | some z => match appd tab h z xt x with
        | none => none
        | some (c, m, new) => match s with
          | .slice none 0 0 => some ⟨c && Nat.blt 0 m && Nat.ble m 1048576 && Nat.ble z.bytes 4096 && Nat.beq z.zero.length z.size && !(Nat.beq z.size 0), .slice (some ⟨id, 0, none⟩) m capX, [(id, some ⟨new, el, true, z.size⟩)]⟩
          | .slice (some ⟨b, 0, none⟩) len cap => match h b with
            | none => none
            | some k => match k.own with
              | false => none
              | true => some ⟨c && Nat.ble (len + m) 1048576 && Nat.ble z.bytes 4096 && Nat.beq z.zero.length z.size && !(Nat.beq z.size 0) && Nat.ble (len * z.size) k.cs.length &&
                  (match Nat.beq cap capX with | true => Nat.beq k.ap z.size && Nat.beq k.ty el | false => Nat.blt cap (len + m)),
                  .slice (some ⟨id, 0, none⟩) (len + m) capX, [(b, none), (id, some ⟨k.cs.take (len * z.size) ++ new, el, true, z.size⟩)]⟩
          | _ => none
    | _ => none

def idsIn (h : Blks) : List Nat → Bool
  | [] => true
  | i :: r => match h i with | some _ => idsIn h r | none => false

def ofBV (r : Option (Bool × Value)) : Option Out :=
  match r with
  | none => none
  | some (c, v) => some ⟨c, v, []⟩

/-- one operation; 'id': the number of the block that it may make -/
def opF (tab : Tab) (orc : Orc) (sy : Sy) (id : Nat) (t : Slots) (h : Blks) (op : Op) : Option Out :=
  match op with
  | .move x => match look t x with | none => none | some v => some ⟨true, v, []⟩
  | .assign x => match look t x with | none => none | some v => some ⟨true, v, []⟩
  | .pick c a b => match c, look t c with
    | .tmp s, some (.bool q) => match (syBool sy s q).2 with
      | true => match look t a, look t b with | some v, some _ => some ⟨(syBool sy s q).1, v, []⟩ | _, _ => none
      | false => match look t a, look t b with | some _, some v => some ⟨(syBool sy s q).1, v, []⟩ | _, _ => none
    | _, _ => none
  | .alloc e => match tab e with
    | none => none
    | some y => some ⟨true, .pointer (some ⟨id, 0, none⟩), [(id, some ⟨y.zero, e, true, 0⟩)]⟩
  | .box e x => match look t x with
    | none => none
    | some v => match adr v || isTup v with
      | true => none
      | false => some ⟨true, .pointer (some ⟨id, 0, none⟩), [(id, some ⟨vcells v, e, true, 0⟩)]⟩
  | .build e parts => match tab e, lookParts t parts.toList with
    | some y, some ps => match y.und with
      | .array _ el => match tab el with
        | none => none
        | some z => match fillL (fun i => some (i * z.size, z.size)) y.zero ps with
          | none => none
          | some cs => some ⟨true, .agg cs.toArray, []⟩
      | .struct fs => match places tab fs.toList with
        | none => none
        | some pl => match fillL (nth pl) y.zero ps with
          | none => none
          | some cs => some ⟨true, .agg cs.toArray, []⟩
      | _ => none
    | _, _ => none
  | .buildSlice e len parts => match tab e, lookParts t parts.toList with
    | some y, some ps => match y.und with
      | .slice el => match tab el with
        | none => none
        | some z => match Nat.beq z.zero.length z.size && Nat.ble (len * z.size) 16777216 && !(Nat.beq (len * z.size) 0), fillL (fun i => some (i * z.size, z.size)) (zeroRow z.zero len) ps with
          | true, some cs => some ⟨true, .slice (some ⟨id, 0, none⟩) len len, [(id, some ⟨cs, el, true, 0⟩)]⟩
          | _, _ => none
      | _ => none
    | _, _ => none
  | .makeSlice e l c => match tab e, look t l, look t c with
    | some y, some (.int .i64 (.ofNat a)), some (.int .i64 (.ofNat b)) => match y.und with
      | .slice el => match tab el with
        | none => none
        | some z => match Nat.beq a b && Nat.beq z.zero.length z.size && Nat.ble (z.bytes * a) 281474976710656 && Nat.ble a 1048576 && !(Nat.beq (a * z.size) 0) with
          | true => some ⟨true, .slice (some ⟨id, 0, none⟩) a a, [(id, some ⟨zeroRow z.zero a, el, true, 0⟩)]⟩
          | false => none
      | _ => none
    | _, _, _ => none
  | .load e a => match look t a, tab e with
    | some (.pointer (some ⟨b, off, none⟩)), some y => match h b with
      | none => none
      | some k => some ⟨Nat.ble (off + y.size) k.cs.length && (isAggD y.und || Nat.beq y.size 1), ldv y k.cs off, []⟩
    | _, _ => none
  | .store e a x => match look t a, look t x, tab e with
    | some (.pointer (some ⟨b, off, none⟩)), some v, some y => match h b with
      | none => none
      | some k => match k.own && !adr v && !isTup v with
        | false => none
        | true => match v with
          | .agg cs => some ⟨Nat.ble (off + y.size) k.cs.length && Nat.beq cs.toList.length y.size, undef, [(b, some ⟨splice k.cs off cs.toList, k.ty, true, k.ap⟩)]⟩
          | v => some ⟨Nat.ble (off + 1) k.cs.length && Nat.beq y.size 1, undef, [(b, some ⟨put1 k.cs off v, k.ty, true, k.ap⟩)]⟩
    | _, _, _ => none
  | .binOp op ty x y _ => match look t x, look t y with
    | some a, some b => ofBV (binF tab op ty a b)
    | _, _ => none
  | .unOp op _ x => match look t x with
    | some a => match unF op a with | none => none | some v => some ⟨true, v, []⟩
    | none => none
  | .convert s d x => match look t x with
    | some a => ofBV (convF tab h s d a)
    | none => none
  | .slice ty x lo hi mx => match look t x, lookAll t (lo.toList ++ hi.toList ++ mx.toList) with
    | some a, some _ => ofBV (sliceF tab ty a (lo.bind (look t)) (hi.bind (look t)) (mx.bind (look t)))
    | _, _ => none
  | .fieldAddr s x f => match look t x with
    | some a => ofBV (fieldF tab s a f)
    | none => none
  | .indexAddr ty x ix => match look t x, look t ix with
    | some a, some i => ofBV (idxAddrF tab ty a i)
    | _, _ => none
  | .index ty x ix => match look t x, look t ix with
    | some a, some i => ofBV (idxF tab ty a i)
    | _, _ => none
  | .extract x i => match look t x with
    | some (.tuple vs) => match nth vs.toList i with
      | some v => some ⟨true, v, []⟩
      | none => none
    | _ => none
  | .makeFunc fn first captured => match fn, first.toList, captured.toList with
    | .func f, [], [] => some ⟨true, .func (.func f) #[] #[], []⟩
    | _, _, _ => none
  | .call c => match c.callee with
    | .value f => match look t f, lookAll t c.args.toList with
      | some (.func (.func k) first captured), some vs => match first.toList, captured.toList with
        | [], [] => match idsIn h (idsOf vs) with | true => ofBV (orc k vs h) | false => none
        | _, _ => none
      | _, _ => none
    | .builtin .len => match c.argTypes.toList, lookAll t c.args.toList with
      | [ty], some [v] => match lenF tab ty v with | none => none | some r => some ⟨true, r, []⟩
      | _, _ => none
    | .builtin .append => match c.argTypes.toList, lookAll t c.args.toList with
      | [ty, xt], some [v, x] => appF tab h id ty xt v x
      | _, _ => none
    | _ => none
  | _ => none

/-- the slot of an operation of the region -/
def dstOf (ops : List Oper) (j : Nat) : Option Nat :=
  match nth ops j with
  | some o => o.dst
  | none => none

/-- one operation, under its guard -/
def stepG (tab : Tab) (orc : Orc) (sy : Sy) (ops : List Oper) (id : Nat) (t : Slots) (h : Blks) (o : Oper) : Option Out :=
  match o.guard with
  | none => opF tab orc sy id t h o.op
  | some (j, want) => match dstOf ops j with
    | none => none
    | some d => match t d with
      | some (.bool b) => match (syBool sy d b).2 == want with
        | true => match opF tab orc sy id t h o.op with
          | none => none
          | some r => some ⟨(syBool sy d b).1 && r.c, r.v, r.e⟩
        | false => some ⟨(syBool sy d b).1, undef, []⟩
      | some (.tuple _) => some ⟨true, undef, []⟩
      | _ => none

/-- a truth value that is to be taken for known is written down as known -/
def assume (sy : Sy) (d : Option Nat) (out : Out) : Out :=
  match d with
  | none => out
  | some d => match out.v with
    | .bool b => match syGet sy d with
      | some e => ⟨out.c && (b == e), .bool e, out.e⟩
      | none => out
    | .int k x => match asGet sy d with
      | some (.i e) => ⟨out.c && (x == e), .int k e, out.e⟩
      | _ => out
    | _ => out

def stepF (tab : Tab) (orc : Orc) (sy : Sy) (ops : List Oper) (id : Nat) (t : Slots) (h : Blks) (o : Oper) : Option Out :=
  match stepG tab orc sy ops id t h o with
  | none => none
  | some out => some (assume sy o.dst out)

def hApp : Heap → List (Nat × Option Blk) → Heap
  | h, [] => h
  | h, (i, some b) :: r => hApp (hput h i b) r
  | h, (i, none) :: r => hApp (hdel h i) r

def tApp (t : List (Option Value)) (d : Option Nat) (v : Value) : List (Option Value) :=
  match d with
  | none => t
  | some d => slotPut t d v

/-- all operations, in the order of the text -/
def runF (tab : Tab) (orc : Orc) (sy : Sy) (ops : List Oper) (n : Nat) : Nat → List Oper → List (Option Value) → Heap → Option (List Out × List (Option Value) × Heap)
  | _, [], t, h => some ([], t, h)
  | i, o :: r, t, h => match stepF tab orc sy ops (n + i) (slotOf t) (hget h) o with
    | none => none
    | some out => match runF tab orc sy ops n (i + 1) r (tApp t o.dst out.v) (hApp h out.e) with
      | none => none
      | some (outs, t', h') => some (out :: outs, t', h')

/-- is a condition of this operation to be told? -/
def keyOf (sy : Sy) (o : Oper) : Bool :=
  match o.dst with
  | some d => (asGet sy d).isSome
  | none => match o.op with
    | .store _ (.tmp a) _ => (asGet sy a).isSome
    | _ => false

def conds (sy : Sy) : List Oper → List Out → Prop → Prop
  | o :: r, out :: outs, K => match keyOf sy o with
    | true => out.c = true ∧ conds sy r outs K
    | false => match out.c with
      | true => conds sy r outs K
      | false => False
  | _, _, K => K

/-! ## The order of a region -/

/-- operations that are ordered ahead of each -/
def closA : List Oper → List Nat → List Nat
  | [], acc => acc
  | o :: r, acc => closA r (acc ++ [o.after.toList.foldl (fun s e => if Region.binds .any e then s ||| 2 ^ e.on ||| acc.getD e.on 0 else s) 0])

def clos (ops : List Oper) : List Nat := closA ops []

def opSlots (ops : List Oper) (o : Oper) : List Nat :=
  (o.op.operands.toList.filterMap fun | .tmp t => some t | _ => none) ++
  (match o.guard with
   | some (g, _) => (dstOf ops g).toList
   | none => [])

def meet : List Nat → List Nat → Bool
  | [], _ => false
  | x :: r, l => l.contains x || meet r l

/-- do two operations meet at a slot? -/
def slotConf (ops : List Oper) (x y : Oper) : Bool :=
  meet x.dst.toList (opSlots ops y ++ y.dst.toList) || meet y.dst.toList (opSlots ops x)

/-- the blocks that an operation looks at -/
def opIds (t : Slots) (op : Op) : List Nat :=
  match op with
  | .load _ a => match look t a with | some v => idOf v | none => []
  | .store _ a _ => match look t a with | some v => idOf v | none => []
  | .convert _ _ x => match look t x with | some v => idOf v | none => []
  | .call c => match lookAll t c.args.toList with | some vs => idsOf vs | none => []
  | _ => []

def wrIds : List (Nat × Option Blk) → List Nat
  | [] => []
  | (i, _) :: r => i :: wrIds r

/-- what each operation looks at and writes: blocks -/
def feet (tab : Tab) (orc : Orc) (sy : Sy) (ops : List Oper) (n : Nat) : Nat → List Oper → List (Option Value) → Heap → List (List Nat × List Nat)
  | _, [], _, _ => []
  | i, o :: r, t, h => match stepF tab orc sy ops (n + i) (slotOf t) (hget h) o with
    | none => []
    | some out => (opIds (slotOf t) o.op, wrIds out.e) :: feet tab orc sy ops n (i + 1) r (tApp t o.dst out.v) (hApp h out.e)

def idConf (x y : List Nat × List Nat) : Bool := meet x.2 (y.1 ++ y.2) || meet y.2 x.1

/-- two operations that meet are ordered: x (number i) against all behind it -/
def okSlots1 (ops : List Oper) (x : Oper) (i : Nat) : List Oper → List Nat → Bool
  | y :: r, c :: cs => (!(slotConf ops x y) || c.testBit i) && okSlots1 ops x i r cs
  | _, _ => true

def okSlots (ops : List Oper) : Nat → List Oper → List Nat → Bool
  | i, x :: r, _ :: cs => okSlots1 ops x i r cs && okSlots ops (i + 1) r cs
  | _, _, _ => true

def okIds1 (x : List Nat × List Nat) (i : Nat) : List (List Nat × List Nat) → List Nat → Bool
  | y :: r, c :: cs => (!(idConf x y) || c.testBit i) && okIds1 x i r cs
  | _, _ => true

def okIds : Nat → List (List Nat × List Nat) → List Nat → Bool
  | i, x :: r, _ :: cs => (match x with | ([], []) => true | _ => okIds1 x i r cs) && okIds (i + 1) r cs
  | _, _, _ => true

def backward : Nat → List Oper → Bool
  | _, [] => true
  | i, o :: r => o.after.toList.all (fun e => !(Region.binds .any e) || Nat.blt e.on i) && backward (i + 1) r

def noSel : List Oper → Bool
  | [] => true
  | o :: r => (match o.op with | .select _ _ => false | _ => true) && noSel r

def okOrder (ops : List Oper) : Bool := okSlots ops 0 ops (clos ops) && backward 0 ops

/-! ## States written out: the kernel reckons by name, and would else carry all that has been -/
def forceN {α : Sort _} (n : Nat) (K : Nat → α) : α := match n with
  | 0 => K 0
  | m + 1 => K (m + 1)
def forceV (v : Value) (K : Value → Prop) : Prop := match v with
  | .int k n => K (.int k n)
  | .bool b => K (.bool b)
  | v => K v
def forceL : List Value → (List Value → Prop) → Prop
  | [], K => K []
  | x :: r, K => forceV x fun x => forceL r fun r => K (x :: r)
def forceT : List (Option Value) → (List (Option Value) → Prop) → Prop
  | [], K => K []
  | none :: r, K => forceT r fun r => K (none :: r)
  | some v :: r, K => forceV v fun v => forceT r fun r => K (some v :: r)
def forceH : Heap → (Heap → Prop) → Prop
  | [], K => K []
  | (i, ⟨cs, ty, own, ap⟩) :: r, K => forceN i fun i => forceL cs fun cs => forceN ty fun ty => forceN ap fun ap => match own with
    | true => forceH r fun r => K ((i, ⟨cs, ty, true, ap⟩) :: r)
    | false => forceH r fun r => K ((i, ⟨cs, ty, false, ap⟩) :: r)
def forceS (s : AS) (K : AS → Prop) : Prop := forceT s.t fun t => forceH s.h fun h => forceN s.n fun n => K ⟨t, h, n⟩

/-! ## Code -/
inductive Ex where
  | normal
  | exit (id : Nat)
  | ret

/-! ## Known things alone -/
def leT : List (Option Value) → List (Option Value) → Prop
  | [], [] => True
  | none :: r, _ :: r' => leT r r'
  | some v :: r, x :: r' => x = some v ∧ leT r r'
  | _, _ => False
def leH : Heap → Heap → Prop
  | [], _ => True
  | (k, b) :: r, h => hget h k = some b ∧ leH r h
/-- every block that is named is below the next number -/
def lowT (n : Nat) : List (Option Value) → Bool
  | [] => true
  | none :: r => lowT n r
  | some v :: r => (idOf v).all (Nat.blt · n) && lowT n r
def lowH (n : Nat) : Heap → Bool
  | [] => true
  | (k, _) :: r => Nat.blt k n && lowH n r
def low (s : AS) : Bool := lowT s.n s.t && lowH s.n s.h
/-- slots of which but some are known -/
def tmps (l : List (Nat × Value)) : Nat → Nat → List (Option Value)
  | 0, _ => []
  | n + 1, i => (match l with
    | [] => none
    | _ => lookup l i) :: tmps l n (i + 1)
where lookup : List (Nat × Value) → Nat → Option Value
  | [], _ => none
  | (k, v) :: r, i => match Nat.beq k i with | true => some v | false => lookup r i
/-- s is known where s' is -/
def leS (s s' : AS) : Prop := leT s.t s'.t ∧ leH s.h s'.h


/-- what a loop comes to: its code, from which state, how it ends, in which state -/
structure LoopC where
  body : Code
  pre : AS
  ex : Ex
  post : AS
abbrev Lo := List (Nat × LoopC)
def loGet : Lo → Nat → Option LoopC
  | [], _ => none
  | (k, b) :: r, i => match Nat.beq k i with | true => some b | false => loGet r i

def evC (tab : Tab) (orc : Orc) (sy : Sy) (br : List Nat) (lo : Lo) : Nat → Code → (Ex → List Bool → AS → Prop) → List Bool → AS → Prop
  | 0, _, _, _, _ => False
  | k + 1, c, K, sc, s => match c with
    | .skip => K .normal sc s
    | .ret => K .ret sc s
    | .exit id => K (.exit id) sc s
    | .seq a b => evC tab orc sy br lo k a (fun e sc s => match e with
      | .normal => evC tab orc sy br lo k b K sc s
      | e => K e sc s) sc s
    | .block id b => match loGet lo id with
      | some L => b = L.body ∧ leS L.pre s ∧ K L.ex sc L.post
      | none => evC tab orc sy br lo k b (fun e sc s => match e with
        | .exit j => match Nat.beq j id with
          | true => K .normal sc s
          | false => K (.exit j) sc s
        | e => K e sc s) sc s
    | .loop b => evC tab orc sy br lo k b (fun e sc s => match e with
      | .normal => evC tab orc sy br lo k (.loop b) K sc s
      | e => K e sc s) sc s
    | .cond (.tmp x) a b => match slotOf s.t x with
      | some (.bool q) => match br.contains x with
        | true => match sc with
          | true :: sc => q = true ∧ evC tab orc sy br lo k a K sc s
          | false :: sc => q = false ∧ evC tab orc sy br lo k b K sc s
          | [] => False
        | false => match q with
          | true => evC tab orc sy br lo k a K sc s
          | false => evC tab orc sy br lo k b K sc s
      | _ => False
    | .cond (.const (.bool q)) a b => match q with
      | true => evC tab orc sy br lo k a K sc s
      | false => evC tab orc sy br lo k b K sc s
    | .region _ ops false => match runF tab orc sy ops.toList s.n 0 ops.toList s.t s.h with
      | none => False
      | some (outs, t, h) => conds sy ops.toList outs (forceS ⟨t, h, s.n + ops.toList.length⟩ (K .normal sc))
    | .region _ ops true => match okOrder ops.toList with
      | false => False
      | true => match okIds 0 (feet tab orc sy ops.toList s.n 0 ops.toList s.t s.h) (clos ops.toList) with
        | false => False
        | true => match runF tab orc sy ops.toList s.n 0 ops.toList s.t s.h with
          | none => False
          | some (outs, t, h) => conds sy ops.toList outs (forceS ⟨t, h, s.n + ops.toList.length⟩ (K .normal sc))
    | _ => False

/-- a function's results -/
def resF (tab : Tab) (s : AS) : List ResultVar → Option (List Value)
  | [] => some []
  | .tmp t :: r => match slotOf s.t t with
    | none => none
    | some v => match adr v || isTup v, resF tab s r with
      | false, some vs => some (v :: vs)
      | _, _ => none
  | .cell a ty :: r => match slotOf s.t a, tab ty with
    | some (.pointer (some ⟨b, off, none⟩)), some y => match hget s.h b with
      | none => none
      | some k => match Nat.ble (off + y.size) k.cs.length && (isAggD y.und || Nat.beq y.size 1), resF tab s r with
        | true, some vs => some (ldv y k.cs off :: vs)
        | _, _ => none
    | _, _ => none

def resV (tab : Tab) (s : AS) (l : List ResultVar) : Option Value :=
  match resF tab s l with
  | some [v] => some v
  | some vs => some (.tuple vs.toArray)
  | none => none

def undefs : Nat → List (Option Value)
  | 0 => []
  | n + 1 => some undef :: undefs n

/-- the state at a function's start -/
def start (ntmps : Nat) (args : List Value) (h : Heap) (n : Nat) : AS := ⟨args.map some ++ undefs (ntmps - args.length), h, n⟩

/-- a whole body, straight from its start -/
def evBody (tab : Tab) (orc : Orc) (sy : Sy) (br : List Nat) (lo : Lo) (fuel : Nat) (fn : Func) (c : Code) (args : List Value) (h : Heap) (n : Nat) (sc : List Bool) (R : Value → Prop) : Prop :=
  evC tab orc sy br lo fuel c (fun e _ s => match e with
    | .exit _ => False
    | _ => match resV tab s fn.results.toList with
      | some v => R v
      | none => False) sc (start fn.ntmps args h n)

end Go.Proofs.YthgefjgbkhkmgaaDoor.Ev
