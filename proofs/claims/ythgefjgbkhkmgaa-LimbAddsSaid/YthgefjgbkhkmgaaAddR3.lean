/-
  The law LimbAdds: the rounds of its loop, part 3.
-/
import Derived.Test.YthgefjgbkhkmgaaAddW
namespace Go.Proofs.Ythgefjgbkhkmgaa.Ev
open Go Go.RowKit
attribute [local irreducible] evC evBody

theorem ad_r6 (k : AD) (d : Nat → Int) : List.map (fun n => List.map (adRound k d n) (runN 0 n)) (runN 32 3) = mapL (fun n => mapL (adWant k d n) (runN 0 n)) (runN 32 3) := by kernel_rfl
theorem ad_o6 (k : AD) (d : Nat → Int) : List.map (fun n => List.map (adOff k d n) (runN 0 n)) (runN 32 3) = mapL (fun n => mapL (adOffW k) (runN 0 n)) (runN 32 3) := by kernel_rfl
theorem ad_r7 (k : AD) (d : Nat → Int) : List.map (fun n => List.map (adRound k d n) (runN 0 n)) (runN 35 2) = mapL (fun n => mapL (adWant k d n) (runN 0 n)) (runN 35 2) := by kernel_rfl
theorem ad_o7 (k : AD) (d : Nat → Int) : List.map (fun n => List.map (adOff k d n) (runN 0 n)) (runN 35 2) = mapL (fun n => mapL (adOffW k) (runN 0 n)) (runN 35 2) := by kernel_rfl
end Go.Proofs.Ythgefjgbkhkmgaa.Ev