/-
  Parse walked.
-/
import Derived.Test.YthgefjgbkhkmgaaDoorDig
namespace Go.Proofs.YthgefjgbkhkmgaaDoor.Ev
open Go Go.RowKit
attribute [local irreducible] evC evBody

/-! ## Parse -/
noncomputable def f5l : Code := inB (blockIn 0 (bodyOf Tryd.f5))
/-- a text's byte -/
def bt (s : ByteArray) (i : Nat) : Int := ((byteAt s.data.toList i).toNat : Int)
def shlI (a : Int) : Int := IntKind.u8.wrap (a * 2 ^ (min (4 : Int).toNat IntKind.u8.bits))
def orI (a b : Int) : Int := IntKind.u8.wrap ((BitVec.ofInt 8 a ||| BitVec.ofInt 8 b).toNat : Int)
def pkB (s : ByteArray) (j : Nat) : Int := orI (shlI (hvI (bt s (2 * j)))) (hvI (bt s (2 * j + 1)))
def pkT (v : Nat → Int) (i : Nat) : Nat → Int := fun j => match Nat.blt j i with
  | true => v j
  | false => 0
def z32 : List Value := zrep 32 (.int .u8 0)
def paPre (s : ByteArray) (i : Nat) : AS := ⟨tmps [(0, .string s), (2, ptr 0), (4, ptr 2), (14, .int .i64 (.ofNat i))] 49 0, [(0, ⟨z32, 23, true, 0⟩), (2, ⟨cellsOf .u8 (pkT (pkB s) i) 32 0, 23, true, 0⟩)], 200⟩
def ixOk (s : ByteArray) (k : Int) : Prop := decide (0 ≤ k ∧ k < (s.size : Int)) = true
noncomputable def btOk (s : ByteArray) (k : Nat) : Prop := ixOk s (.ofNat k) ∧ okE1 (ifP (isB (bt s k)))
def paSy (b c : Asm) : Sy := [(21, .ok), (22, .ok), (24, b), (30, .ok), (31, .ok), (33, c)]
def paRound (s : ByteArray) (i : Nat) : Prop := evC tab orcP0 [(21, .ok), (22, .ok), (24, .b true), (30, .ok), (31, .ok), (33, .b true)] [] [] 100 f5l (fun e _ s' => match e with | .normal => leS (paPre s (i + 1)) s' | _ => False) [] (paPre s i)
noncomputable def paWant (s : ByteArray) (i : Nat) : Prop := ixOk s (.ofNat (2 * i)) ∧ okE1 (ifP (isB (bt s (2 * i)))) ∧ emit (hvB (bt s (2 * i))) true ∧ ixOk s (.ofNat (2 * i + 1)) ∧ okE1 (ifP (isB (bt s (2 * i + 1)))) ∧ emit (hvB (bt s (2 * i + 1))) true ∧ leS (paPre s (i + 1)) (paPre s (i + 1))
def paEnd : AS := ⟨tmps [(2, ptr 0), (3, .bool false)] 49 0, [(0, ⟨z32, 23, true, 0⟩)], 200⟩
def paOff1 (s : ByteArray) (i : Nat) : Prop := evC tab orcP0 [(21, .ok), (22, .ok), (24, .b false), (30, .ok), (31, .ok)] [] [] 100 f5l (fun e _ s' => match e with | .ret => leS paEnd s' | _ => False) [] (paPre s i)
noncomputable def paOff1W (s : ByteArray) (i : Nat) : Prop := ixOk s (.ofNat (2 * i)) ∧ okE1 (ifP (isB (bt s (2 * i)))) ∧ emit (hvB (bt s (2 * i))) false ∧ ixOk s (.ofNat (2 * i + 1)) ∧ okE1 (ifP (isB (bt s (2 * i + 1)))) ∧ leS paEnd paEnd
def paOff2 (s : ByteArray) (i : Nat) : Prop := evC tab orcP0 [(21, .ok), (22, .ok), (24, .b true), (30, .ok), (31, .ok), (33, .b false)] [] [] 100 f5l (fun e _ s' => match e with | .ret => leS paEnd s' | _ => False) [] (paPre s i)
noncomputable def paOff2W (s : ByteArray) (i : Nat) : Prop := ixOk s (.ofNat (2 * i)) ∧ okE1 (ifP (isB (bt s (2 * i)))) ∧ emit (hvB (bt s (2 * i))) true ∧ ixOk s (.ofNat (2 * i + 1)) ∧ okE1 (ifP (isB (bt s (2 * i + 1)))) ∧ emit (hvB (bt s (2 * i + 1))) false ∧ leS paEnd paEnd
theorem pa_r (s : ByteArray) : List.map (paRound s) (runN 0 32) = mapL (paWant s) (runN 0 32) := by kernel_rfl
theorem pa_o1 (s : ByteArray) : List.map (paOff1 s) (runN 0 32) = mapL (paOff1W s) (runN 0 32) := by kernel_rfl
theorem pa_o2 (s : ByteArray) : List.map (paOff2 s) (runN 0 32) = mapL (paOff2W s) (runN 0 32) := by kernel_rfl
theorem pa_l (s : ByteArray) : evC tab orcP0 [(21, .ok), (22, .ok), (24, .b true), (30, .ok), (31, .ok), (33, .b true)] [] [] 100 f5l (fun e _ s' => match e with | .exit j => (match Nat.beq j 0 with | true => leS (paPre s 32) s' | false => False) | _ => False) [] (paPre s 32) = leS (paPre s 32) (paPre s 32) := by kernel_rfl
theorem paPre_refl (s : ByteArray) (i : Nat) : leS (paPre s i) (paPre s i) := ⟨leT_refl _, rfl, rfl, trivial⟩
theorem paPre_low (s : ByteArray) (i : Nat) : low (paPre s i) = true := by kernel_rfl
theorem paEnd_refl : leS paEnd paEnd := ⟨leT_refl _, rfl, trivial⟩
theorem paEnd_low : low paEnd = true := by kernel_rfl
noncomputable def paC (s : ByteArray) : LoopC := ⟨.loop f5l, paPre s 0, .normal, paPre s 32⟩
noncomputable def paCo (s : ByteArray) : LoopC := ⟨.loop f5l, paPre s 0, .ret, paEnd⟩
theorem pa_big (s : ByteArray) : evBody tab orcP0 [(12, .b true)] [] [] 1000 Tryd.f5 (bodyOf Tryd.f5) [.string s] [] 0 [] (fun r => r = .tuple #[.agg z32.toArray, .bool false]) =
    (emit (((s.size : Nat) : Int) != 64) true ∧ Value.tuple #[.agg z32.toArray, .bool false] = .tuple #[.agg z32.toArray, .bool false]) := by kernel_rfl
theorem pa_run (s : ByteArray) : evBody tab orcP0 [(12, .b false)] [] [(0, paC s)] 1000 Tryd.f5 (bodyOf Tryd.f5) [.string s] [] 0 [] (fun r => r = .tuple #[vK (pkT (pkB s) 32), .bool true]) =
    (emit (((s.size : Nat) : Int) != 64) false ∧ Code.loop f5l = Code.loop f5l ∧ leS (paPre s 0) (paPre s 0) ∧ Value.tuple #[vK (pkT (pkB s) 32), .bool true] = .tuple #[vK (pkT (pkB s) 32), .bool true]) := by kernel_rfl
theorem pa_off (s : ByteArray) : evBody tab orcP0 [(12, .b false)] [] [(0, paCo s)] 1000 Tryd.f5 (bodyOf Tryd.f5) [.string s] [] 0 [] (fun r => r = .tuple #[.agg z32.toArray, .bool false]) =
    (emit (((s.size : Nat) : Int) != 64) false ∧ Code.loop f5l = Code.loop f5l ∧ leS (paPre s 0) (paPre s 0) ∧ Value.tuple #[.agg z32.toArray, .bool false] = .tuple #[.agg z32.toArray, .bool false]) := by kernel_rfl

end Go.Proofs.YthgefjgbkhkmgaaDoor.Ev
