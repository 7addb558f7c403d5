/-
  The document's Hex walked.
-/
import Derived.Test.YthgefjgbkhkmgaaDoorLoop
namespace Go.Proofs.YthgefjgbkhkmgaaDoor.Ev
open Go Go.RowKit
attribute [local irreducible] evC evBody

/-! ## the document's Hex -/
noncomputable def f9l : Code := inB (blockIn 0 (bodyOf Tryd.f9))
def digs : ByteArray := ⟨#[48, 49, 50, 51, 52, 53, 54, 55, 56, 57, 97, 98, 99, 100, 101, 102]⟩
def nHi (x : Int) : Int := IntKind.u8.wrap (x.tdiv 16)
def nLo (x : Int) : Int := x.tmod 16
def upI (x : Int) : Int := IntKind.u8.wrap (x + 1)
def dgS (x : Int) : ByteArray := digs.extract x.toNat (upI x).toNat
def hxStep (a : ByteArray) (x : Int) : ByteArray := a ++ dgS (nHi x) ++ dgS (nLo x)
def hxPre (φ : Nat → Int) (a : ByteArray) (i : Nat) : AS := ⟨tmps [(1, ptr 0), (3, .string a), (4, .int .i64 (.ofNat i))] 31 0, [(0, ⟨cellsOf .u8 φ 32 0, 22, true, 0⟩)], 200⟩
def slOk (x : Int) : Prop := decide (0 ≤ upI x ∧ upI x ≤ ((digs.size : Nat) : Int) ∧ 0 ≤ x ∧ x ≤ upI x) = true
def adOk (a b : ByteArray) : Prop := decide (((a.size + b.size : Nat) : Int) ≤ IntKind.i64.max) = true
def hxRound (φ : Nat → Int) (a : ByteArray) (i : Nat) : Prop := evC tab orc0 [(23, .ok), (24, .ok), (28, .ok), (29, .ok)] [] [] 100 f9l (fun e _ s' => match e with | .normal => leS (hxPre φ (hxStep a (φ i)) (i + 1)) s' | _ => False) [] (hxPre φ a i)
def hxWant (φ : Nat → Int) (a : ByteArray) (i : Nat) : Prop := slOk (nHi (φ i)) ∧ adOk a (dgS (nHi (φ i))) ∧ slOk (nLo (φ i)) ∧ adOk (a ++ dgS (nHi (φ i))) (dgS (nLo (φ i))) ∧ leS (hxPre φ (hxStep a (φ i)) (i + 1)) (hxPre φ (hxStep a (φ i)) (i + 1))
theorem hx_r (φ : Nat → Int) (a : ByteArray) : List.map (hxRound φ a) (runN 0 32) = mapL (hxWant φ a) (runN 0 32) := by kernel_rfl
theorem hx_l (φ : Nat → Int) (a : ByteArray) : evC tab orc0 [(23, .ok), (24, .ok), (28, .ok), (29, .ok)] [] [] 100 f9l (fun e _ s' => match e with | .exit j => (match Nat.beq j 0 with | true => leS (hxPre φ a 32) s' | false => False) | _ => False) [] (hxPre φ a 32) = leS (hxPre φ a 32) (hxPre φ a 32) := by kernel_rfl
theorem hxPre_refl (φ : Nat → Int) (a : ByteArray) (i : Nat) : leS (hxPre φ a i) (hxPre φ a i) := ⟨leT_refl _, rfl, trivial⟩
theorem hxPre_low (φ : Nat → Int) (a : ByteArray) (i : Nat) : low (hxPre φ a i) = true := by kernel_rfl
/-- the text behind so many bytes -/
def hxS (φ : Nat → Int) : Nat → ByteArray
  | 0 => ⟨#[]⟩
  | i + 1 => hxStep (hxS φ i) (φ i)
def hxT (φ : Nat → Int) (i : Nat) : AS := hxPre φ (hxS φ i) i
noncomputable def hxC (φ : Nat → Int) : LoopC := ⟨.loop f9l, hxT φ 0, .normal, hxT φ 32⟩
theorem hx_run (φ : Nat → Int) : evBody tab orc0 [] [] [(0, hxC φ)] 1000 Tryd.f9 (bodyOf Tryd.f9) [vK φ] [] 0 [] (fun r => r = .string (hxS φ 32)) =
    (Code.loop f9l = Code.loop f9l ∧ leS (hxT φ 0) (hxT φ 0) ∧ Value.string (hxS φ 32) = .string (hxS φ 32)) := by kernel_rfl
end Go.Proofs.YthgefjgbkhkmgaaDoor.Ev
