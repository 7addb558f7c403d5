/-
  The document's Parse walked.
-/
import Derived.Test.YthgefjgbkhkmgaaDoorPa
namespace Go.Proofs.YthgefjgbkhkmgaaDoor.Ev
open Go Go.RowKit
attribute [local irreducible] evC evBody

/-! ## the document's Parse -/
noncomputable def f8l : Code := inB (blockIn 0 (bodyOf Tryd.f8))
def pkR (s : ByteArray) (j : Nat) : Int := IntKind.u8.wrap (IntKind.i64.wrap (IntKind.i64.wrap (16 * rvI (bt s (2 * j))) + rvI (bt s (2 * j + 1))))
def prPre (s : ByteArray) (i : Nat) : AS := ⟨tmps [(0, .string s), (2, ptr 0), (4, ptr 2), (5, .int .i64 (.ofNat i))] 42 0, [(0, ⟨z32, 22, true, 0⟩), (2, ⟨cellsOf .u8 (pkT (pkR s) i) 32 0, 22, true, 0⟩)], 200⟩
noncomputable def prBoth (s : ByteArray) (i : Nat) (p : Prop) : Prop := ixOk s (.ofNat (2 * i)) ∧ okE1 (ifP (isB (bt s (2 * i)))) ∧ ixOk s (.ofNat (2 * i + 1)) ∧ okE1 (ifP (isB (bt s (2 * i + 1)))) ∧ p
def prRound (s : ByteArray) (i : Nat) : Prop := evC tab orcP0 [(19, .ok), (20, .ok), (25, .ok), (26, .ok), (28, .b false), (31, .b false)] [] [] 100 f8l (fun e _ s' => match e with | .normal => leS (prPre s (i + 1)) s' | _ => False) [] (prPre s i)
noncomputable def prWant (s : ByteArray) (i : Nat) : Prop := prBoth s i (emit (decide (rvI (bt s (2 * i)) < 0)) false ∧ emit (decide (rvI (bt s (2 * i + 1)) < 0)) false ∧ leS (prPre s (i + 1)) (prPre s (i + 1)))
def prEnd : AS := ⟨tmps [(2, ptr 0), (3, .bool false)] 42 0, [(0, ⟨z32, 22, true, 0⟩)], 200⟩
def prOff1 (s : ByteArray) (i : Nat) : Prop := evC tab orcP0 [(19, .ok), (20, .ok), (25, .ok), (26, .ok), (28, .b true)] [] [] 100 f8l (fun e _ s' => match e with | .ret => leS prEnd s' | _ => False) [] (prPre s i)
noncomputable def prOff1W (s : ByteArray) (i : Nat) : Prop := prBoth s i (emit (decide (rvI (bt s (2 * i)) < 0)) true ∧ leS prEnd prEnd)
def prOff2 (s : ByteArray) (i : Nat) : Prop := evC tab orcP0 [(19, .ok), (20, .ok), (25, .ok), (26, .ok), (28, .b false), (31, .b true)] [] [] 100 f8l (fun e _ s' => match e with | .ret => leS prEnd s' | _ => False) [] (prPre s i)
noncomputable def prOff2W (s : ByteArray) (i : Nat) : Prop := prBoth s i (emit (decide (rvI (bt s (2 * i)) < 0)) false ∧ emit (decide (rvI (bt s (2 * i + 1)) < 0)) true ∧ leS prEnd prEnd)
theorem pr_r (s : ByteArray) : List.map (prRound s) (runN 0 32) = mapL (prWant s) (runN 0 32) := by kernel_rfl
theorem pr_o1 (s : ByteArray) : List.map (prOff1 s) (runN 0 32) = mapL (prOff1W s) (runN 0 32) := by kernel_rfl
theorem pr_o2 (s : ByteArray) : List.map (prOff2 s) (runN 0 32) = mapL (prOff2W s) (runN 0 32) := by kernel_rfl
theorem pr_l (s : ByteArray) : evC tab orcP0 [(19, .ok), (20, .ok), (25, .ok), (26, .ok), (28, .b false), (31, .b false)] [] [] 100 f8l (fun e _ s' => match e with | .exit j => (match Nat.beq j 0 with | true => leS (prPre s 32) s' | false => False) | _ => False) [] (prPre s 32) = leS (prPre s 32) (prPre s 32) := by kernel_rfl
theorem prPre_refl (s : ByteArray) (i : Nat) : leS (prPre s i) (prPre s i) := ⟨leT_refl _, rfl, rfl, trivial⟩
theorem prPre_low (s : ByteArray) (i : Nat) : low (prPre s i) = true := by kernel_rfl
theorem prEnd_refl : leS prEnd prEnd := ⟨leT_refl _, rfl, trivial⟩
theorem prEnd_low : low prEnd = true := by kernel_rfl
noncomputable def prC (s : ByteArray) : LoopC := ⟨.loop f8l, prPre s 0, .normal, prPre s 32⟩
noncomputable def prCo (s : ByteArray) : LoopC := ⟨.loop f8l, prPre s 0, .ret, prEnd⟩
theorem pr_big (s : ByteArray) : evBody tab orcP0 [(10, .b true)] [] [] 1000 Tryd.f8 (bodyOf Tryd.f8) [.string s] [] 0 [] (fun r => r = .tuple #[.agg z32.toArray, .bool false]) =
    (emit (((s.size : Nat) : Int) != 64) true ∧ Value.tuple #[.agg z32.toArray, .bool false] = .tuple #[.agg z32.toArray, .bool false]) := by kernel_rfl
theorem pr_run (s : ByteArray) : evBody tab orcP0 [(10, .b false)] [] [(0, prC s)] 1000 Tryd.f8 (bodyOf Tryd.f8) [.string s] [] 0 [] (fun r => r = .tuple #[vK (pkT (pkR s) 32), .bool true]) =
    (emit (((s.size : Nat) : Int) != 64) false ∧ Code.loop f8l = Code.loop f8l ∧ leS (prPre s 0) (prPre s 0) ∧ Value.tuple #[vK (pkT (pkR s) 32), .bool true] = .tuple #[vK (pkT (pkR s) 32), .bool true]) := by kernel_rfl
theorem pr_off (s : ByteArray) : evBody tab orcP0 [(10, .b false)] [] [(0, prCo s)] 1000 Tryd.f8 (bodyOf Tryd.f8) [.string s] [] 0 [] (fun r => r = .tuple #[.agg z32.toArray, .bool false]) =
    (emit (((s.size : Nat) : Int) != 64) false ∧ Code.loop f8l = Code.loop f8l ∧ leS (prPre s 0) (prPre s 0) ∧ Value.tuple #[.agg z32.toArray, .bool false] = .tuple #[.agg z32.toArray, .bool false]) := by kernel_rfl

end Go.Proofs.YthgefjgbkhkmgaaDoor.Ev
