/-
  The law LimbAdds: the rounds of its loop, part 2.
-/
import Derived.Test.YthgefjgbkhkmgaaAddW
namespace Go.Proofs.Ythgefjgbkhkmgaa.Ev
open Go Go.RowKit
attribute [local irreducible] evC evBody

theorem ad_r3 (k : AD) (d : Nat → Int) : List.map (fun n => List.map (adRound k d n) (runN 0 n)) (runN 22 4) = mapL (fun n => mapL (adWant k d n) (runN 0 n)) (runN 22 4) := by kernel_rfl
theorem ad_o3 (k : AD) (d : Nat → Int) : List.map (fun n => List.map (adOff k d n) (runN 0 n)) (runN 22 4) = mapL (fun n => mapL (adOffW k) (runN 0 n)) (runN 22 4) := by kernel_rfl
theorem ad_r4 (k : AD) (d : Nat → Int) : List.map (fun n => List.map (adRound k d n) (runN 0 n)) (runN 26 3) = mapL (fun n => mapL (adWant k d n) (runN 0 n)) (runN 26 3) := by kernel_rfl
theorem ad_o4 (k : AD) (d : Nat → Int) : List.map (fun n => List.map (adOff k d n) (runN 0 n)) (runN 26 3) = mapL (fun n => mapL (adOffW k) (runN 0 n)) (runN 26 3) := by kernel_rfl
theorem ad_r5 (k : AD) (d : Nat → Int) : List.map (fun n => List.map (adRound k d n) (runN 0 n)) (runN 29 3) = mapL (fun n => mapL (adWant k d n) (runN 0 n)) (runN 29 3) := by kernel_rfl
theorem ad_o5 (k : AD) (d : Nat → Int) : List.map (fun n => List.map (adOff k d n) (runN 0 n)) (runN 29 3) = mapL (fun n => mapL (adOffW k) (runN 0 n)) (runN 29 3) := by kernel_rfl
end Go.Proofs.Ythgefjgbkhkmgaa.Ev