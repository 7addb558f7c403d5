/-
  The law LimbAdds: the rounds of its loop, part 4.
-/
import Derived.Test.YthgefjgbkhkmgaaAddW
namespace Go.Proofs.Ythgefjgbkhkmgaa.Ev
open Go Go.RowKit
attribute [local irreducible] evC evBody

theorem ad_r8 (k : AD) (d : Nat → Int) : List.map (fun n => List.map (adRound k d n) (runN 0 n)) (runN 37 2) = mapL (fun n => mapL (adWant k d n) (runN 0 n)) (runN 37 2) := by kernel_rfl
theorem ad_o8 (k : AD) (d : Nat → Int) : List.map (fun n => List.map (adOff k d n) (runN 0 n)) (runN 37 2) = mapL (fun n => mapL (adOffW k) (runN 0 n)) (runN 37 2) := by kernel_rfl
theorem ad_r9 (k : AD) (d : Nat → Int) : List.map (fun n => List.map (adRound k d n) (runN 0 n)) (runN 39 2) = mapL (fun n => mapL (adWant k d n) (runN 0 n)) (runN 39 2) := by kernel_rfl
theorem ad_o9 (k : AD) (d : Nat → Int) : List.map (fun n => List.map (adOff k d n) (runN 0 n)) (runN 39 2) = mapL (fun n => mapL (adOffW k) (runN 0 n)) (runN 39 2) := by kernel_rfl
end Go.Proofs.Ythgefjgbkhkmgaa.Ev